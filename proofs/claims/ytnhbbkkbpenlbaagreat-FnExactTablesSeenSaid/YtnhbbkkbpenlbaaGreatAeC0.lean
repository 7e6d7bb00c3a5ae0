/- Contracts. -/
import Derived.Test.YtnhbbkkbpenlbaaGreatAeSeat
import Derived.Test.YtnhbbkkbpenlbaaGreatAeEq
import Derived.Test.YtnhbbkkbpenlbaaGreatAeInl
namespace Go.AE
open Go Go.RowKit Go.Proofs.Tryz
set_option maxRecDepth 100000
set_option linter.unusedVariables false

/-! 78: loop.example/tablehouse/laws.szColumnS -/
def c78 : Con := ⟨[.dat (Ty.sl TColumn), .dat TInt], fun args hp K => args2 (fun a0 a1 => withD (Ty.sl TColumn) a0 fun x => withD TInt a1 fun left => (Ln (Ty.sl TColumn) x) ∧ (0 ≤ left) ∧ (left ≤ 1048576) ∧ K (.data TInt (M.szLen x.length left)) []) args hp, .plain⟩
def cons78 : Cons := []
def inl78 : List (Nat × Inl) := []
@[reducible] def C78 : Ctx := ⟨tab, fun t => memN t cmps, cons78, 12, inl78, 0, false⟩
theorem consOk78 : ConsOk P C78 := by
  exact consOk_nil
def ann78 : Nat → List Dir
  | 0 => [.keep [0, 1]]
  | 1 => [.keep [1]]
  | 2 => [.keep [1, 10]]
  | 3 => [.keep [4]]
  | 4 => [.keep [4]]
  | _ => []
def L78 (x : (List (TColumn).D)) (left : Int) : Loops := fun id m st_ K => match id with
  | _ => False
theorem vc78 (x : (List (TColumn).D)) (left : Int) (K : AV → Hp → Prop) : awp C78 (L78 x left) ann78 (bodyOf f78) ⟨argEnv 0 [.data (Ty.sl TColumn) x, .data TInt left], []⟩ (outK tab false f78.results.toList (hasBox []) (resK (.dat TInt) K)) =
  (cond (decide (wrap64 (left - (x.length : Int)) < (0 : Int))) (K (.data TInt (-1 : Int)) []) (K (.data TInt (wrap64 (left - (x.length : Int)))) [])) := by kernel_rfl
theorem con78_ok : ConOk P 78 c78 := by
  refine con_okR (fn := f78) (code := bodyOf f78) (tab_ok tab_check cmp_check) consOk78 mixed func78 rfl rfl fun args hp K h0 => ?_
  obtain ⟨a0, a1, rfl, rfl, h1⟩ := args2_elim h0
  obtain ⟨x, rfl, h2⟩ := withD_elim h1
  obtain ⟨left, rfl, h3⟩ := withD_elim h2
  obtain ⟨h_x, p0, p1, hK⟩ := h3
  have h : ok (F.laws_szColumnS x left) (fun r => K (.data TInt r) []) := ok_of_eq (F.laws_szColumnS_eq x left h_x p0 p1) hK
  refine ⟨⟨show (2 : Nat) ≤ 12 by decide, show (2 : Nat) ≤ 1000000 by decide⟩, ann78, (L78 x left), (.dat TInt), (no_loops (by kernel_rfl)), ?_⟩
  · rw [vc78 x left K]
    exact (ok_cond h (fun b_1 h => (have h := ok_ret h; h)) (fun b_1 h => (have h := ok_ret h; h)))

/-! 152: loop.example/tablehouse/laws.szValue -/
def c152 : Con := ⟨[.dat TValue, .dat TInt], fun args hp K => args2 (fun a0 a1 => withD TValue a0 fun x => withD TInt a1 fun left => (Ln TValue x) ∧ (0 ≤ left) ∧ (left ≤ 1048576) ∧ K (.data TInt (M.szValue x left)) []) args hp, .plain⟩
def cons152 : Cons := []
def inl152 : List (Nat × Inl) := []
@[reducible] def C152 : Ctx := ⟨tab, fun t => memN t cmps, cons152, 13, inl152, 0, false⟩
theorem consOk152 : ConsOk P C152 := by
  exact consOk_nil
def ann152 : Nat → List Dir
  | 0 => [.fixRow 2 TValue, .keep [1, 2]]
  | 1 => [.keep [1]]
  | 2 => [.keep [1, 11]]
  | 3 => [.keep [4]]
  | 4 => [.keep [4]]
  | _ => []
def L152 (x : (TValue).D) (left : Int) : Loops := fun id m st_ K => match id with
  | _ => False
theorem vc152 (x : (TValue).D) (left : Int) (K : AV → Hp → Prop) : awp C152 (L152 x left) ann152 (bodyOf f152) ⟨argEnv 0 [.data TValue x, .data TInt left], []⟩ (outK tab false f152.results.toList (hasBox []) (resK (.dat TInt) K)) =
  (cond (decide (wrap64 (left - (x.2.2.1.size : Int)) < (0 : Int))) (K (.data TInt (-1 : Int)) []) (K (.data TInt (wrap64 (left - (x.2.2.1.size : Int)))) [])) := by kernel_rfl
theorem con152_ok : ConOk P 152 c152 := by
  refine con_okR (fn := f152) (code := bodyOf f152) (tab_ok tab_check cmp_check) consOk152 mixed func152 rfl rfl fun args hp K h0 => ?_
  obtain ⟨a0, a1, rfl, rfl, h1⟩ := args2_elim h0
  obtain ⟨x, rfl, h2⟩ := withD_elim h1
  obtain ⟨left, rfl, h3⟩ := withD_elim h2
  obtain ⟨h_x, p0, p1, hK⟩ := h3
  have h : ok (F.laws_szValue x left) (fun r => K (.data TInt r) []) := ok_of_eq (F.laws_szValue_eq x left h_x p0 p1) hK
  refine ⟨⟨show (2 : Nat) ≤ 13 by decide, show (2 : Nat) ≤ 1000000 by decide⟩, ann152, (L152 x left), (.dat TInt), (no_loops (by kernel_rfl)), ?_⟩
  · rw [vc152 x left K]
    exact (ok_cond h (fun b_1 h => (have h := ok_ret h; h)) (fun b_1 h => (have h := ok_ret h; h)))

/-! 117: loop.example/tablehouse/laws.szValueS -/
def c117 : Con := ⟨[.dat (Ty.sl TValue), .dat TInt], fun args hp K => args2 (fun a0 a1 => withD (Ty.sl TValue) a0 fun x => withD TInt a1 fun left => (Ln (Ty.sl TValue) x) ∧ (0 ≤ left) ∧ (left ≤ 1048576) ∧ K (.data TInt (M.szS M.szValue x left)) []) args hp, .plain⟩
def cons117 : Cons := [(152, c152)]
def inl117 : List (Nat × Inl) := []
@[reducible] def C117 : Ctx := ⟨tab, fun t => memN t cmps, cons117, 27, inl117, 0, false⟩
theorem consOk117 : ConsOk P C117 := by
  refine consOk_cons (enter_ok (fn := f152) func152 (by kernel_rfl) rfl) con152_ok ?_
  exact consOk_nil
def ann117 : Nat → List Dir
  | 0 => [.keep [0, 1]]
  | 1 => [.keep [0, 1]]
  | 2 => [.keep [0, 1, 11]]
  | 3 => [.keep [4]]
  | 4 => [.keep [0, 1, 5]]
  | 5 => [.keep [0, 1, 5, 15]]
  | 6 => [.keep [0, 1, 5]]
  | 7 => [.keep [0, 1, 5]]
  | 8 => [.keep [0, 1, 5, 25]]
  | 9 => [.keep [4]]
  | 10 => [.keep [4]]
  | 100000 => [.keep [1]]
  | _ => []
@[reducible] def LP117_0 (x : (List (TValue).D)) (left : Int) (m : Nat) (st_ : St) (K : X → St → Prop) : Prop := (True) ∧ LoopE (t := TValue) (fun (i0 : Int) (v0 : Int) => (⟨[(0, .data (Ty.sl TValue) x), (1, .data TInt v0), (5, .data TInt i0)], []⟩ : St)) x (F.laws_szValueS_l0 x left) (fun v0 : Int => True) (outD (fun v0 : Int => True → K (.exit 0) (⟨[(1, .data TInt v0)], []⟩ : St)) (fun q0 : Unit => K .ret (⟨[(4, .data TInt (-1 : Int))], []⟩ : St))) m st_
def L117 (x : (List (TValue).D)) (left : Int) : Loops := fun id m st_ K => match id with
  | 0 => LP117_0 x left m st_ K
  | _ => False
theorem vc117 (x : (List (TValue).D)) (left : Int) (K : AV → Hp → Prop) : awp C117 (L117 x left) ann117 (bodyOf f117) ⟨argEnv 0 [.data (Ty.sl TValue) x, .data TInt left], []⟩ (outK tab false f117.results.toList (hasBox []) (resK (.dat TInt) K)) =
  (cond (decide (wrap64 (left - (x.length : Int)) < (0 : Int))) (K (.data TInt (-1 : Int)) []) ((∃ m_, (True) ∧ LoopE (t := TValue) (fun (i0 : Int) (v0 : Int) => (⟨[(0, .data (Ty.sl TValue) x), (1, .data TInt v0), (5, .data TInt i0)], []⟩ : St)) x (F.laws_szValueS_l0 x left) (fun v0 : Int => True) (outD (fun v0 : Int => True → K (.data TInt v0) []) (fun q0 : Unit => K (.data TInt (-1 : Int)) [])) m_ (⟨[(0, .data (Ty.sl TValue) x), (1, .data TInt (wrap64 (left - (x.length : Int)))), (5, .data TInt (0 : Int))], []⟩ : St)))) := by kernel_rfl
theorem lvc117_0 (x : (List (TValue).D)) (left : Int)  (i0 : Int) (v0 : Int) (m : Nat) (K : X → St → Prop) : awp C117 (L117 x left) ann117 (loopAt (bodyOf f117) 0) (⟨[(0, .data (Ty.sl TValue) x), (1, .data TInt v0), (5, .data TInt i0)], []⟩ : St) (thenW (fun s' => ∃ m', m' < m ∧ (L117 x left) 0 m' s' K) (exitN 0 (ann117 (behind 0)) K)) =
  (cond (decide (i0 < (x.length : Int))) ((0 ≤ i0) ∧ (i0 < (x.length : Int)) ∧ (Ln TValue (nth (t := TValue) x i0)) ∧ (0 ≤ v0) ∧ (v0 ≤ 1048576) ∧ cond (decide ((M.szValue (nth (t := TValue) x i0) v0) < (0 : Int))) (K .ret (⟨[(4, .data TInt (-1 : Int))], []⟩ : St)) ((∃ m_, m_ < m ∧ (L117 x left) 0 m_ (⟨[(0, .data (Ty.sl TValue) x), (1, .data TInt (M.szValue (nth (t := TValue) x i0) v0)), (5, .data TInt (wrap64 (i0 + (1 : Int))))], []⟩ : St) K))) (K (.exit 0) (⟨[(1, .data TInt v0)], []⟩ : St))) := by kernel_rfl
theorem con117_ok : ConOk P 117 c117 := by
  refine con_okR (fn := f117) (code := bodyOf f117) (tab_ok tab_check cmp_check) consOk117 mixed func117 rfl rfl fun args hp K h0 => ?_
  obtain ⟨a0, a1, rfl, rfl, h1⟩ := args2_elim h0
  obtain ⟨x, rfl, h2⟩ := withD_elim h1
  obtain ⟨left, rfl, h3⟩ := withD_elim h2
  obtain ⟨h_x, p0, p1, hK⟩ := h3
  have h : ok (F.laws_szValueS x left) (fun r => K (.data TInt r) []) := ok_of_eq (F.laws_szValueS_eq x left h_x p0 p1) hK
  refine ⟨⟨show (2 : Nat) ≤ 27 by decide, show (2 : Nat) ≤ 1000000 by decide⟩, ann117, (L117 x left), (.dat TInt), (loopsN1 (i0 := 0) (by kernel_rfl) ?_), ?_⟩
  · clear h
    intro m_ s_ K_ h
    obtain ⟨hc0, i0, v0, rfl, hl0, rfl, hv0, h⟩ := (show LP117_0 x left m_ s_ K_ from h)
    rw [lvc117_0 x left i0 v0 _ K_]
    exact (loopE_step (t := TValue) hl0 h (fun ht0 h => ⟨hl0, ⟨ht0, ⟨(sm_nth h_x i0), ⟨(ok_guard h).1, have h := (ok_guard h).2; ⟨(ok_guard h).1, have h := (ok_guard h).2; (ok_cond h (fun b_16 h => (have h := ok_ret h; h)) (fun b_16 h => (loopE_next (t := TValue) (fun m hm => (show LP117_0 x left m _ _ from ⟨hc0, hm⟩)) (M.szValue (nth (t := TValue) x i0) v0) rfl hl0 ht0 (sm_len h_x) trivial (have h := ok_ret h; h))))⟩⟩⟩⟩⟩) (fun h => (h trivial)))
  · rw [vc117 x left K]
    exact (ok_cond h (fun b_1 h => (have h := ok_ret h; h)) (fun b_1 h => (loopE_start (t := TValue) (fun m hm => ⟨trivial, hm⟩) (wrap64 (left - (x.length : Int))) rfl trivial (ok_then h (fun v0 h hv0 => (have h := ok_ret h; h)) (fun q0 h => (have h := ok_ret h; h))))))

/-! 79: loop.example/tablehouse/laws.szValueSS -/
def c79 : Con := ⟨[.dat (Ty.sl (Ty.sl TValue)), .dat TInt], fun args hp K => args2 (fun a0 a1 => withD (Ty.sl (Ty.sl TValue)) a0 fun x => withD TInt a1 fun left => (Ln (Ty.sl (Ty.sl TValue)) x) ∧ (0 ≤ left) ∧ (left ≤ 1048576) ∧ K (.data TInt (M.szS (M.szS M.szValue) x left)) []) args hp, .plain⟩
def cons79 : Cons := [(117, c117)]
def inl79 : List (Nat × Inl) := []
@[reducible] def C79 : Ctx := ⟨tab, fun t => memN t cmps, cons79, 27, inl79, 0, false⟩
theorem consOk79 : ConsOk P C79 := by
  refine consOk_cons (enter_ok (fn := f117) func117 (by kernel_rfl) rfl) con117_ok ?_
  exact consOk_nil
def ann79 : Nat → List Dir
  | 0 => [.keep [0, 1]]
  | 1 => [.keep [0, 1]]
  | 2 => [.keep [0, 1, 11]]
  | 3 => [.keep [4]]
  | 4 => [.keep [0, 1, 5]]
  | 5 => [.keep [0, 1, 5, 15]]
  | 6 => [.keep [0, 1, 5]]
  | 7 => [.keep [0, 1, 5]]
  | 8 => [.keep [0, 1, 5, 25]]
  | 9 => [.keep [4]]
  | 10 => [.keep [4]]
  | 100000 => [.keep [1]]
  | _ => []
@[reducible] def LP79_0 (x : (List (List (TValue).D))) (left : Int) (m : Nat) (st_ : St) (K : X → St → Prop) : Prop := (True) ∧ LoopE (t := (Ty.sl TValue)) (fun (i0 : Int) (v0 : Int) => (⟨[(0, .data (Ty.sl (Ty.sl TValue)) x), (1, .data TInt v0), (5, .data TInt i0)], []⟩ : St)) x (F.laws_szValueSS_l0 x left) (fun v0 : Int => True) (outD (fun v0 : Int => True → K (.exit 0) (⟨[(1, .data TInt v0)], []⟩ : St)) (fun q0 : Unit => K .ret (⟨[(4, .data TInt (-1 : Int))], []⟩ : St))) m st_
def L79 (x : (List (List (TValue).D))) (left : Int) : Loops := fun id m st_ K => match id with
  | 0 => LP79_0 x left m st_ K
  | _ => False
theorem vc79 (x : (List (List (TValue).D))) (left : Int) (K : AV → Hp → Prop) : awp C79 (L79 x left) ann79 (bodyOf f79) ⟨argEnv 0 [.data (Ty.sl (Ty.sl TValue)) x, .data TInt left], []⟩ (outK tab false f79.results.toList (hasBox []) (resK (.dat TInt) K)) =
  (cond (decide (wrap64 (left - (x.length : Int)) < (0 : Int))) (K (.data TInt (-1 : Int)) []) ((∃ m_, (True) ∧ LoopE (t := (Ty.sl TValue)) (fun (i0 : Int) (v0 : Int) => (⟨[(0, .data (Ty.sl (Ty.sl TValue)) x), (1, .data TInt v0), (5, .data TInt i0)], []⟩ : St)) x (F.laws_szValueSS_l0 x left) (fun v0 : Int => True) (outD (fun v0 : Int => True → K (.data TInt v0) []) (fun q0 : Unit => K (.data TInt (-1 : Int)) [])) m_ (⟨[(0, .data (Ty.sl (Ty.sl TValue)) x), (1, .data TInt (wrap64 (left - (x.length : Int)))), (5, .data TInt (0 : Int))], []⟩ : St)))) := by kernel_rfl
theorem lvc79_0 (x : (List (List (TValue).D))) (left : Int)  (i0 : Int) (v0 : Int) (m : Nat) (K : X → St → Prop) : awp C79 (L79 x left) ann79 (loopAt (bodyOf f79) 0) (⟨[(0, .data (Ty.sl (Ty.sl TValue)) x), (1, .data TInt v0), (5, .data TInt i0)], []⟩ : St) (thenW (fun s' => ∃ m', m' < m ∧ (L79 x left) 0 m' s' K) (exitN 0 (ann79 (behind 0)) K)) =
  (cond (decide (i0 < (x.length : Int))) ((0 ≤ i0) ∧ (i0 < (x.length : Int)) ∧ (Ln (Ty.sl TValue) (nth (t := (Ty.sl TValue)) x i0)) ∧ (0 ≤ v0) ∧ (v0 ≤ 1048576) ∧ cond (decide ((M.szS M.szValue (nth (t := (Ty.sl TValue)) x i0) v0) < (0 : Int))) (K .ret (⟨[(4, .data TInt (-1 : Int))], []⟩ : St)) ((∃ m_, m_ < m ∧ (L79 x left) 0 m_ (⟨[(0, .data (Ty.sl (Ty.sl TValue)) x), (1, .data TInt (M.szS M.szValue (nth (t := (Ty.sl TValue)) x i0) v0)), (5, .data TInt (wrap64 (i0 + (1 : Int))))], []⟩ : St) K))) (K (.exit 0) (⟨[(1, .data TInt v0)], []⟩ : St))) := by kernel_rfl
theorem con79_ok : ConOk P 79 c79 := by
  refine con_okR (fn := f79) (code := bodyOf f79) (tab_ok tab_check cmp_check) consOk79 mixed func79 rfl rfl fun args hp K h0 => ?_
  obtain ⟨a0, a1, rfl, rfl, h1⟩ := args2_elim h0
  obtain ⟨x, rfl, h2⟩ := withD_elim h1
  obtain ⟨left, rfl, h3⟩ := withD_elim h2
  obtain ⟨h_x, p0, p1, hK⟩ := h3
  have h : ok (F.laws_szValueSS x left) (fun r => K (.data TInt r) []) := ok_of_eq (F.laws_szValueSS_eq x left h_x p0 p1) hK
  refine ⟨⟨show (2 : Nat) ≤ 27 by decide, show (2 : Nat) ≤ 1000000 by decide⟩, ann79, (L79 x left), (.dat TInt), (loopsN1 (i0 := 0) (by kernel_rfl) ?_), ?_⟩
  · clear h
    intro m_ s_ K_ h
    obtain ⟨hc0, i0, v0, rfl, hl0, rfl, hv0, h⟩ := (show LP79_0 x left m_ s_ K_ from h)
    rw [lvc79_0 x left i0 v0 _ K_]
    exact (loopE_step (t := (Ty.sl TValue)) hl0 h (fun ht0 h => ⟨hl0, ⟨ht0, ⟨(sm_nth h_x i0), ⟨(ok_guard h).1, have h := (ok_guard h).2; ⟨(ok_guard h).1, have h := (ok_guard h).2; (ok_cond h (fun b_16 h => (have h := ok_ret h; h)) (fun b_16 h => (loopE_next (t := (Ty.sl TValue)) (fun m hm => (show LP79_0 x left m _ _ from ⟨hc0, hm⟩)) (M.szS M.szValue (nth (t := (Ty.sl TValue)) x i0) v0) rfl hl0 ht0 (sm_len h_x) trivial (have h := ok_ret h; h))))⟩⟩⟩⟩⟩) (fun h => (h trivial)))
  · rw [vc79 x left K]
    exact (ok_cond h (fun b_1 h => (have h := ok_ret h; h)) (fun b_1 h => (loopE_start (t := (Ty.sl TValue)) (fun m hm => ⟨trivial, hm⟩) (wrap64 (left - (x.length : Int))) rfl trivial (ok_then h (fun v0 h hv0 => (have h := ok_ret h; h)) (fun q0 h => (have h := ok_ret h; h))))))

/-! 35: loop.example/tablehouse/laws.szTable -/
def c35 : Con := ⟨[.dat TTable, .dat TInt], fun args hp K => args2 (fun a0 a1 => withD TTable a0 fun x => withD TInt a1 fun left => (Ln TTable x) ∧ (0 ≤ left) ∧ (left ≤ 1048576) ∧ K (.data TInt (M.szTable x left)) []) args hp, .plain⟩
def cons35 : Cons := [(78, c78), (79, c79)]
def inl35 : List (Nat × Inl) := []
@[reducible] def C35 : Ctx := ⟨tab, fun t => memN t cmps, cons35, 18, inl35, 0, false⟩
theorem consOk35 : ConsOk P C35 := by
  refine consOk_cons (enter_ok (fn := f78) func78 (by kernel_rfl) rfl) con78_ok ?_
  refine consOk_cons (enter_ok (fn := f79) func79 (by kernel_rfl) rfl) con79_ok ?_
  exact consOk_nil
def ann35 : Nat → List Dir
  | 0 => [.fixRow 2 TTable, .keep [1, 2]]
  | 1 => [.keep [1, 2]]
  | 2 => [.keep [1, 2, 10]]
  | 3 => [.keep [4]]
  | 4 => [.keep [1]]
  | 5 => [.keep [1, 16]]
  | 6 => [.keep [4]]
  | 7 => [.keep [4]]
  | _ => []
def L35 (x : (TTable).D) (left : Int) : Loops := fun id m st_ K => match id with
  | _ => False
theorem vc35 (x : (TTable).D) (left : Int) (K : AV → Hp → Prop) : awp C35 (L35 x left) ann35 (bodyOf f35) ⟨argEnv 0 [.data TTable x, .data TInt left], []⟩ (outK tab false f35.results.toList (hasBox []) (resK (.dat TInt) K)) =
  ((Ln (Ty.sl TColumn) x.1) ∧ (0 ≤ left) ∧ (left ≤ 1048576) ∧ cond (decide ((M.szLen x.1.length left) < (0 : Int))) (K (.data TInt (-1 : Int)) []) ((Ln (Ty.sl (Ty.sl TValue)) x.2.1) ∧ (0 ≤ (M.szLen x.1.length left)) ∧ ((M.szLen x.1.length left) ≤ 1048576) ∧ cond (decide ((M.szS (M.szS M.szValue) x.2.1 (M.szLen x.1.length left)) < (0 : Int))) (K (.data TInt (-1 : Int)) []) (K (.data TInt (M.szS (M.szS M.szValue) x.2.1 (M.szLen x.1.length left))) []))) := by kernel_rfl
theorem con35_ok : ConOk P 35 c35 := by
  refine con_okR (fn := f35) (code := bodyOf f35) (tab_ok tab_check cmp_check) consOk35 mixed func35 rfl rfl fun args hp K h0 => ?_
  obtain ⟨a0, a1, rfl, rfl, h1⟩ := args2_elim h0
  obtain ⟨x, rfl, h2⟩ := withD_elim h1
  obtain ⟨left, rfl, h3⟩ := withD_elim h2
  obtain ⟨h_x, p0, p1, hK⟩ := h3
  have h : ok (F.laws_szTable x left) (fun r => K (.data TInt r) []) := ok_of_eq (F.laws_szTable_eq x left h_x p0 p1) hK
  refine ⟨⟨show (2 : Nat) ≤ 18 by decide, show (2 : Nat) ≤ 1000000 by decide⟩, ann35, (L35 x left), (.dat TInt), (no_loops (by kernel_rfl)), ?_⟩
  · rw [vc35 x left K]
    exact ⟨h_x.1, ⟨p0, ⟨p1, (ok_cond h (fun b_1 h => (have h := ok_ret h; h)) (fun b_1 h => ⟨h_x.2.1, ⟨(ok_guard h).1, have h := (ok_guard h).2; ⟨(ok_guard h).1, have h := (ok_guard h).2; (ok_cond h (fun b_4 h => (have h := ok_ret h; h)) (fun b_4 h => (have h := ok_ret h; h)))⟩⟩⟩))⟩⟩⟩

/-! 8: loop.example/tablehouse/laws.szTableS -/
def c8 : Con := ⟨[.dat (Ty.sl TTable), .dat TInt], fun args hp K => args2 (fun a0 a1 => withD (Ty.sl TTable) a0 fun x => withD TInt a1 fun left => (Ln (Ty.sl TTable) x) ∧ (0 ≤ left) ∧ (left ≤ 1048576) ∧ K (.data TInt (M.szS M.szTable x left)) []) args hp, .plain⟩
def cons8 : Cons := [(35, c35)]
def inl8 : List (Nat × Inl) := []
@[reducible] def C8 : Ctx := ⟨tab, fun t => memN t cmps, cons8, 27, inl8, 0, false⟩
theorem consOk8 : ConsOk P C8 := by
  refine consOk_cons (enter_ok (fn := f35) func35 (by kernel_rfl) rfl) con35_ok ?_
  exact consOk_nil
def ann8 : Nat → List Dir
  | 0 => [.keep [0, 1]]
  | 1 => [.keep [0, 1]]
  | 2 => [.keep [0, 1, 11]]
  | 3 => [.keep [4]]
  | 4 => [.keep [0, 1, 5]]
  | 5 => [.keep [0, 1, 5, 15]]
  | 6 => [.keep [0, 1, 5]]
  | 7 => [.keep [0, 1, 5]]
  | 8 => [.keep [0, 1, 5, 25]]
  | 9 => [.keep [4]]
  | 10 => [.keep [4]]
  | 100000 => [.keep [1]]
  | _ => []
@[reducible] def LP8_0 (x : (List (TTable).D)) (left : Int) (m : Nat) (st_ : St) (K : X → St → Prop) : Prop := (True) ∧ LoopE (t := TTable) (fun (i0 : Int) (v0 : Int) => (⟨[(0, .data (Ty.sl TTable) x), (1, .data TInt v0), (5, .data TInt i0)], []⟩ : St)) x (F.laws_szTableS_l0 x left) (fun v0 : Int => True) (outD (fun v0 : Int => True → K (.exit 0) (⟨[(1, .data TInt v0)], []⟩ : St)) (fun q0 : Unit => K .ret (⟨[(4, .data TInt (-1 : Int))], []⟩ : St))) m st_
def L8 (x : (List (TTable).D)) (left : Int) : Loops := fun id m st_ K => match id with
  | 0 => LP8_0 x left m st_ K
  | _ => False
theorem vc8 (x : (List (TTable).D)) (left : Int) (K : AV → Hp → Prop) : awp C8 (L8 x left) ann8 (bodyOf f8) ⟨argEnv 0 [.data (Ty.sl TTable) x, .data TInt left], []⟩ (outK tab false f8.results.toList (hasBox []) (resK (.dat TInt) K)) =
  (cond (decide (wrap64 (left - (x.length : Int)) < (0 : Int))) (K (.data TInt (-1 : Int)) []) ((∃ m_, (True) ∧ LoopE (t := TTable) (fun (i0 : Int) (v0 : Int) => (⟨[(0, .data (Ty.sl TTable) x), (1, .data TInt v0), (5, .data TInt i0)], []⟩ : St)) x (F.laws_szTableS_l0 x left) (fun v0 : Int => True) (outD (fun v0 : Int => True → K (.data TInt v0) []) (fun q0 : Unit => K (.data TInt (-1 : Int)) [])) m_ (⟨[(0, .data (Ty.sl TTable) x), (1, .data TInt (wrap64 (left - (x.length : Int)))), (5, .data TInt (0 : Int))], []⟩ : St)))) := by kernel_rfl
theorem lvc8_0 (x : (List (TTable).D)) (left : Int)  (i0 : Int) (v0 : Int) (m : Nat) (K : X → St → Prop) : awp C8 (L8 x left) ann8 (loopAt (bodyOf f8) 0) (⟨[(0, .data (Ty.sl TTable) x), (1, .data TInt v0), (5, .data TInt i0)], []⟩ : St) (thenW (fun s' => ∃ m', m' < m ∧ (L8 x left) 0 m' s' K) (exitN 0 (ann8 (behind 0)) K)) =
  (cond (decide (i0 < (x.length : Int))) ((0 ≤ i0) ∧ (i0 < (x.length : Int)) ∧ (Ln TTable (nth (t := TTable) x i0)) ∧ (0 ≤ v0) ∧ (v0 ≤ 1048576) ∧ cond (decide ((M.szTable (nth (t := TTable) x i0) v0) < (0 : Int))) (K .ret (⟨[(4, .data TInt (-1 : Int))], []⟩ : St)) ((∃ m_, m_ < m ∧ (L8 x left) 0 m_ (⟨[(0, .data (Ty.sl TTable) x), (1, .data TInt (M.szTable (nth (t := TTable) x i0) v0)), (5, .data TInt (wrap64 (i0 + (1 : Int))))], []⟩ : St) K))) (K (.exit 0) (⟨[(1, .data TInt v0)], []⟩ : St))) := by kernel_rfl
theorem con8_ok : ConOk P 8 c8 := by
  refine con_okR (fn := f8) (code := bodyOf f8) (tab_ok tab_check cmp_check) consOk8 mixed func8 rfl rfl fun args hp K h0 => ?_
  obtain ⟨a0, a1, rfl, rfl, h1⟩ := args2_elim h0
  obtain ⟨x, rfl, h2⟩ := withD_elim h1
  obtain ⟨left, rfl, h3⟩ := withD_elim h2
  obtain ⟨h_x, p0, p1, hK⟩ := h3
  have h : ok (F.laws_szTableS x left) (fun r => K (.data TInt r) []) := ok_of_eq (F.laws_szTableS_eq x left h_x p0 p1) hK
  refine ⟨⟨show (2 : Nat) ≤ 27 by decide, show (2 : Nat) ≤ 1000000 by decide⟩, ann8, (L8 x left), (.dat TInt), (loopsN1 (i0 := 0) (by kernel_rfl) ?_), ?_⟩
  · clear h
    intro m_ s_ K_ h
    obtain ⟨hc0, i0, v0, rfl, hl0, rfl, hv0, h⟩ := (show LP8_0 x left m_ s_ K_ from h)
    rw [lvc8_0 x left i0 v0 _ K_]
    exact (loopE_step (t := TTable) hl0 h (fun ht0 h => ⟨hl0, ⟨ht0, ⟨(sm_nth h_x i0), ⟨(ok_guard h).1, have h := (ok_guard h).2; ⟨(ok_guard h).1, have h := (ok_guard h).2; (ok_cond h (fun b_16 h => (have h := ok_ret h; h)) (fun b_16 h => (loopE_next (t := TTable) (fun m hm => (show LP8_0 x left m _ _ from ⟨hc0, hm⟩)) (M.szTable (nth (t := TTable) x i0) v0) rfl hl0 ht0 (sm_len h_x) trivial (have h := ok_ret h; h))))⟩⟩⟩⟩⟩) (fun h => (h trivial)))
  · rw [vc8 x left K]
    exact (ok_cond h (fun b_1 h => (have h := ok_ret h; h)) (fun b_1 h => (loopE_start (t := TTable) (fun m hm => ⟨trivial, hm⟩) (wrap64 (left - (x.length : Int))) rfl trivial (ok_then h (fun v0 h hv0 => (have h := ok_ret h; h)) (fun q0 h => (have h := ok_ret h; h))))))

/-! 120: loop.example/tablehouse/laws.toColumn -/
def c120 : Con := ⟨[.dat TColumn], fun args hp K => args1 (fun a0 => withD TColumn a0 fun x => (∀ r : (TColumn).D, r = (x) → K (.data TColumn r) [])) args hp, .plain⟩
def cons120 : Cons := []
def inl120 : List (Nat × Inl) := []
@[reducible] def C120 : Ctx := ⟨tab, fun t => memN t cmps, cons120, 11, inl120, 0, false⟩
theorem consOk120 : ConsOk P C120 := by
  exact consOk_nil
def ann120 : Nat → List Dir
  | 0 => [.fixRow 1 TColumn, .keep [1, 2]]
  | 1 => [.keep [1, 2, 3]]
  | 2 => [.keep [1, 2, 3]]
  | 3 => [.keep [2, 3]]
  | 4 => [.keep [2]]
  | _ => []
def L120 (x : (TColumn).D) : Loops := fun id m st_ K => match id with
  | _ => False
theorem vc120 (x : (TColumn).D) (K : AV → Hp → Prop) : awp C120 (L120 x) ann120 (bodyOf f120) ⟨argEnv 0 [.data TColumn x], []⟩ (outK tab false f120.results.toList (hasBox []) (resK (.dat TColumn) K)) =
  (K (.data TColumn x) []) := by kernel_rfl
theorem con120_ok : ConOk P 120 c120 := by
  refine con_okR (fn := f120) (code := bodyOf f120) (tab_ok tab_check cmp_check) consOk120 mixed func120 rfl rfl fun args hp K h0 => ?_
  obtain ⟨a0, rfl, rfl, h1⟩ := args1_elim h0
  obtain ⟨x, rfl, h2⟩ := withD_elim h1
  have hK := h2
  have h : ok (F.laws_toColumn x) (fun r => K (.data TColumn r) []) := ok_of_eq (F.laws_toColumn_eq x) (hK _ rfl)
  refine ⟨⟨show (1 : Nat) ≤ 11 by decide, show (1 : Nat) ≤ 1000000 by decide⟩, ann120, (L120 x), (.dat TColumn), (no_loops (by kernel_rfl)), ?_⟩
  · rw [vc120 x K]
    exact (have h := ok_ret h; h)

/-! 83: loop.example/tablehouse/laws.toColumnS -/
def c83 : Con := ⟨[.dat (Ty.sl TColumn)], fun args hp K => args1 (fun a0 => withD (Ty.sl TColumn) a0 fun x => (Sm (Ty.sl TColumn) x) ∧ (∀ r : (List (TColumn).D), r = (x) → K (.own 0 none) [(0, .arr false TColumn r)])) args hp, .plain⟩
def cons83 : Cons := [(120, c120)]
def inl83 : List (Nat × Inl) := []
@[reducible] def C83 : Ctx := ⟨tab, fun t => memN t cmps, cons83, 23, inl83, 0, false⟩
theorem consOk83 : ConsOk P C83 := by
  refine consOk_cons (enter_ok (fn := f120) func120 (by kernel_rfl) rfl) con120_ok ?_
  exact consOk_nil
def ann83 : Nat → List Dir
  | 0 => [.keep [0]]
  | 1 => [.keep [0, 3]]
  | 2 => [.keep [0, 3, 4]]
  | 3 => [.keep [0, 3, 4, 11]]
  | 4 => [.keep [0, 3, 4]]
  | 5 => [.keep [0, 3, 4]]
  | 6 => [.keep [2]]
  | 100000 => [.keep [3]]
  | _ => []
@[reducible] def LP83_0 (x : (List (TColumn).D)) (m : Nat) (st_ : St) (K : X → St → Prop) : Prop := (True) ∧ LoopI (fun (i0 : Int) (v0 : (List (TColumn).D)) => (⟨[(0, .data (Ty.sl TColumn) x), (3, .own 7 none), (4, .data TInt i0)], [(7, .arr false TColumn v0)]⟩ : St)) (0 : Int) (x.length : Int) (F.laws_toColumnS_l0 x) (fun v0 : (List (TColumn).D) => True) (outD (fun v0 : (List (TColumn).D) => True → K (.exit 0) (⟨[(3, .own 7 none)], [(7, .arr false TColumn v0)]⟩ : St)) (fun _ => False)) m st_
def L83 (x : (List (TColumn).D)) : Loops := fun id m st_ K => match id with
  | 0 => LP83_0 x m st_ K
  | _ => False
theorem vc83 (x : (List (TColumn).D)) (K : AV → Hp → Prop) : awp C83 (L83 x) ann83 (bodyOf f83) ⟨argEnv 0 [.data (Ty.sl TColumn) x], []⟩ (outK tab false f83.results.toList (hasBox []) (resK .raw K)) =
  (((x.length : Int) = (x.length : Int)) ∧ (0 ≤ (x.length : Int)) ∧ ((x.length : Int) * 16 ≤ (lim : Int)) ∧ (∃ m_, (True) ∧ LoopI (fun (i0 : Int) (v0 : (List (TColumn).D)) => (⟨[(0, .data (Ty.sl TColumn) x), (3, .own 7 none), (4, .data TInt i0)], [(7, .arr false TColumn v0)]⟩ : St)) (0 : Int) (x.length : Int) (F.laws_toColumnS_l0 x) (fun v0 : (List (TColumn).D) => True) (outD (fun v0 : (List (TColumn).D) => True → K (.own 0 none) [(0, .arr false TColumn v0)]) (fun _ => False)) m_ (⟨[(0, .data (Ty.sl TColumn) x), (3, .own 7 none), (4, .data TInt (0 : Int))], [(7, .arr false TColumn (List.replicate (x.length : Int).toNat ((0 : Int), (false, ()))))]⟩ : St))) := by kernel_rfl
theorem lvc83_0 (x : (List (TColumn).D))  (i0 : Int) (v0 : (List (TColumn).D)) (m : Nat) (K : X → St → Prop) : awp C83 (L83 x) ann83 (loopAt (bodyOf f83) 0) (⟨[(0, .data (Ty.sl TColumn) x), (3, .own 7 none), (4, .data TInt i0)], [(7, .arr false TColumn v0)]⟩ : St) (thenW (fun s' => ∃ m', m' < m ∧ (L83 x) 0 m' s' K) (exitN 0 (ann83 (behind 0)) K)) =
  (cond (decide (i0 < (x.length : Int))) ((0 ≤ i0) ∧ (i0 < (x.length : Int)) ∧ (∀ r_5_6 : (TColumn).D, r_5_6 = ((nth (t := TColumn) x i0)) → (0 ≤ i0) ∧ (i0 < (v0.length : Int)) ∧ (∃ m_, m_ < m ∧ (L83 x) 0 m_ (⟨[(0, .data (Ty.sl TColumn) x), (3, .own 7 none), (4, .data TInt (wrap64 (i0 + (1 : Int))))], [(7, .arr false TColumn (v0.set i0.toNat r_5_6))]⟩ : St) K))) (K (.exit 0) (⟨[(3, .own 7 none)], [(7, .arr false TColumn v0)]⟩ : St))) := by kernel_rfl
theorem con83_ok : ConOk P 83 c83 := by
  refine con_okR (fn := f83) (code := bodyOf f83) (tab_ok tab_check cmp_check) consOk83 mixed func83 rfl rfl fun args hp K h0 => ?_
  obtain ⟨a0, rfl, rfl, h1⟩ := args1_elim h0
  obtain ⟨x, rfl, h2⟩ := withD_elim h1
  obtain ⟨h_x, hK⟩ := h2
  have h : ok (F.laws_toColumnS x) (fun r => K (.own 0 none) [(0, .arr false TColumn r)]) := ok_of_eq (F.laws_toColumnS_eq x h_x) (hK _ rfl)
  refine ⟨⟨show (1 : Nat) ≤ 23 by decide, show (1 : Nat) ≤ 1000000 by decide⟩, ann83, (L83 x), .raw, (loopsN1 (i0 := 0) (by kernel_rfl) ?_), ?_⟩
  · clear h
    intro m_ s_ K_ h
    obtain ⟨hc0, i0, v0, rfl, hl0, rfl, hv0, h⟩ := (show LP83_0 x m_ s_ K_ from h)
    rw [lvc83_0 x i0 v0 _ K_]
    exact (loopI_step h (fun ht0 h => ⟨hl0, ⟨ht0, (fun r_5_6 e_r_5_6 => have h := ok_let h r_5_6 e_r_5_6; ⟨hl0, ⟨(ok_guard h).1, have h := (ok_guard h).2; (loopI_next (fun m hm => (show LP83_0 x m _ _ from ⟨hc0, hm⟩)) (v0.set i0.toNat r_5_6) rfl hl0 low0 ht0 (sm_len h_x) trivial (have h := ok_ret h; h))⟩⟩)⟩⟩) (fun h => (h trivial)))
  · rw [vc83 x K]
    exact ⟨rfl, ⟨(Int.natCast_nonneg _), ⟨(sm_limI h_x rfl), (loopI_start (fun m hm => ⟨trivial, hm⟩) (0 : Int) (List.replicate (x.length : Int).toNat ((0 : Int), (false, ()))) rfl (Int.natCast_nonneg 0) trivial (ok_then h (fun v0 h hv0 => (have h := ok_ret h; h)) (fun _ h => h.elim)))⟩⟩⟩

/-! 154: loop.example/tablehouse/laws.toValue -/
def c154 : Con := ⟨[.dat TValue], fun args hp K => args1 (fun a0 => withD TValue a0 fun x => (Sm TValue x) ∧ (∀ r : (TValue).D, r = (x) → K (.data TValue r) [])) args hp, .plain⟩
def cons154 : Cons := []
def inl154 : List (Nat × Inl) := []
@[reducible] def C154 : Ctx := ⟨tab, fun t => memN t cmps, cons154, 14, inl154, 0, false⟩
theorem consOk154 : ConsOk P C154 := by
  exact consOk_nil
def ann154 : Nat → List Dir
  | 0 => [.fixRow 1 TValue, .keep [1, 2]]
  | 1 => [.keep [1, 2, 3]]
  | 2 => [.keep [1, 2, 3]]
  | 3 => [.keep [1, 2, 3]]
  | 4 => [.keep [2, 3]]
  | 5 => [.keep [2]]
  | _ => []
def L154 (x : (TValue).D) : Loops := fun id m st_ K => match id with
  | _ => False
theorem vc154 (x : (TValue).D) (K : AV → Hp → Prop) : awp C154 (L154 x) ann154 (bodyOf f154) ⟨argEnv 0 [.data TValue x], []⟩ (outK tab false f154.results.toList (hasBox []) (resK (.dat TValue) K)) =
  (K (.data TValue x) []) := by kernel_rfl
theorem con154_ok : ConOk P 154 c154 := by
  refine con_okR (fn := f154) (code := bodyOf f154) (tab_ok tab_check cmp_check) consOk154 mixed func154 rfl rfl fun args hp K h0 => ?_
  obtain ⟨a0, rfl, rfl, h1⟩ := args1_elim h0
  obtain ⟨x, rfl, h2⟩ := withD_elim h1
  obtain ⟨h_x, hK⟩ := h2
  have h : ok (F.laws_toValue x) (fun r => K (.data TValue r) []) := ok_of_eq (F.laws_toValue_eq x h_x) (hK _ rfl)
  refine ⟨⟨show (1 : Nat) ≤ 14 by decide, show (1 : Nat) ≤ 1000000 by decide⟩, ann154, (L154 x), (.dat TValue), (no_loops (by kernel_rfl)), ?_⟩
  · rw [vc154 x K]
    exact (have h := ok_ret h; h)

/-! 121: loop.example/tablehouse/laws.toValueS -/
def c121 : Con := ⟨[.dat (Ty.sl TValue)], fun args hp K => args1 (fun a0 => withD (Ty.sl TValue) a0 fun x => (Sm (Ty.sl TValue) x) ∧ (∀ r : (List (TValue).D), r = (x) → K (.own 0 none) [(0, .arr false TValue r)])) args hp, .plain⟩
def cons121 : Cons := [(154, c154)]
def inl121 : List (Nat × Inl) := []
@[reducible] def C121 : Ctx := ⟨tab, fun t => memN t cmps, cons121, 23, inl121, 0, false⟩
theorem consOk121 : ConsOk P C121 := by
  refine consOk_cons (enter_ok (fn := f154) func154 (by kernel_rfl) rfl) con154_ok ?_
  exact consOk_nil
def ann121 : Nat → List Dir
  | 0 => [.keep [0]]
  | 1 => [.keep [0, 3]]
  | 2 => [.keep [0, 3, 4]]
  | 3 => [.keep [0, 3, 4, 11]]
  | 4 => [.keep [0, 3, 4]]
  | 5 => [.keep [0, 3, 4]]
  | 6 => [.keep [2]]
  | 100000 => [.keep [3]]
  | _ => []
@[reducible] def LP121_0 (x : (List (TValue).D)) (m : Nat) (st_ : St) (K : X → St → Prop) : Prop := (True) ∧ LoopI (fun (i0 : Int) (v0 : (List (TValue).D)) => (⟨[(0, .data (Ty.sl TValue) x), (3, .own 7 none), (4, .data TInt i0)], [(7, .arr false TValue v0)]⟩ : St)) (0 : Int) (x.length : Int) (F.laws_toValueS_l0 x) (fun v0 : (List (TValue).D) => True) (outD (fun v0 : (List (TValue).D) => True → K (.exit 0) (⟨[(3, .own 7 none)], [(7, .arr false TValue v0)]⟩ : St)) (fun _ => False)) m st_
def L121 (x : (List (TValue).D)) : Loops := fun id m st_ K => match id with
  | 0 => LP121_0 x m st_ K
  | _ => False
theorem vc121 (x : (List (TValue).D)) (K : AV → Hp → Prop) : awp C121 (L121 x) ann121 (bodyOf f121) ⟨argEnv 0 [.data (Ty.sl TValue) x], []⟩ (outK tab false f121.results.toList (hasBox []) (resK .raw K)) =
  (((x.length : Int) = (x.length : Int)) ∧ (0 ≤ (x.length : Int)) ∧ ((x.length : Int) * 32 ≤ (lim : Int)) ∧ (∃ m_, (True) ∧ LoopI (fun (i0 : Int) (v0 : (List (TValue).D)) => (⟨[(0, .data (Ty.sl TValue) x), (3, .own 7 none), (4, .data TInt i0)], [(7, .arr false TValue v0)]⟩ : St)) (0 : Int) (x.length : Int) (F.laws_toValueS_l0 x) (fun v0 : (List (TValue).D) => True) (outD (fun v0 : (List (TValue).D) => True → K (.own 0 none) [(0, .arr false TValue v0)]) (fun _ => False)) m_ (⟨[(0, .data (Ty.sl TValue) x), (3, .own 7 none), (4, .data TInt (0 : Int))], [(7, .arr false TValue (List.replicate (x.length : Int).toNat ((0 : Int), ((0 : Int), ((⟨#[]⟩ : ByteArray), ())))))]⟩ : St))) := by kernel_rfl
theorem lvc121_0 (x : (List (TValue).D))  (i0 : Int) (v0 : (List (TValue).D)) (m : Nat) (K : X → St → Prop) : awp C121 (L121 x) ann121 (loopAt (bodyOf f121) 0) (⟨[(0, .data (Ty.sl TValue) x), (3, .own 7 none), (4, .data TInt i0)], [(7, .arr false TValue v0)]⟩ : St) (thenW (fun s' => ∃ m', m' < m ∧ (L121 x) 0 m' s' K) (exitN 0 (ann121 (behind 0)) K)) =
  (cond (decide (i0 < (x.length : Int))) ((0 ≤ i0) ∧ (i0 < (x.length : Int)) ∧ (Sm TValue (nth (t := TValue) x i0)) ∧ (∀ r_5_6 : (TValue).D, r_5_6 = ((nth (t := TValue) x i0)) → (0 ≤ i0) ∧ (i0 < (v0.length : Int)) ∧ (∃ m_, m_ < m ∧ (L121 x) 0 m_ (⟨[(0, .data (Ty.sl TValue) x), (3, .own 7 none), (4, .data TInt (wrap64 (i0 + (1 : Int))))], [(7, .arr false TValue (v0.set i0.toNat r_5_6))]⟩ : St) K))) (K (.exit 0) (⟨[(3, .own 7 none)], [(7, .arr false TValue v0)]⟩ : St))) := by kernel_rfl
theorem con121_ok : ConOk P 121 c121 := by
  refine con_okR (fn := f121) (code := bodyOf f121) (tab_ok tab_check cmp_check) consOk121 mixed func121 rfl rfl fun args hp K h0 => ?_
  obtain ⟨a0, rfl, rfl, h1⟩ := args1_elim h0
  obtain ⟨x, rfl, h2⟩ := withD_elim h1
  obtain ⟨h_x, hK⟩ := h2
  have h : ok (F.laws_toValueS x) (fun r => K (.own 0 none) [(0, .arr false TValue r)]) := ok_of_eq (F.laws_toValueS_eq x h_x) (hK _ rfl)
  refine ⟨⟨show (1 : Nat) ≤ 23 by decide, show (1 : Nat) ≤ 1000000 by decide⟩, ann121, (L121 x), .raw, (loopsN1 (i0 := 0) (by kernel_rfl) ?_), ?_⟩
  · clear h
    intro m_ s_ K_ h
    obtain ⟨hc0, i0, v0, rfl, hl0, rfl, hv0, h⟩ := (show LP121_0 x m_ s_ K_ from h)
    rw [lvc121_0 x i0 v0 _ K_]
    exact (loopI_step h (fun ht0 h => ⟨hl0, ⟨ht0, ⟨(sm_nth h_x i0), (fun r_5_6 e_r_5_6 => have h := ok_let h r_5_6 e_r_5_6; ⟨hl0, ⟨(ok_guard h).1, have h := (ok_guard h).2; (loopI_next (fun m hm => (show LP121_0 x m _ _ from ⟨hc0, hm⟩)) (v0.set i0.toNat r_5_6) rfl hl0 low0 ht0 (sm_len h_x) trivial (have h := ok_ret h; h))⟩⟩)⟩⟩⟩) (fun h => (h trivial)))
  · rw [vc121 x K]
    exact ⟨rfl, ⟨(Int.natCast_nonneg _), ⟨(sm_limI h_x rfl), (loopI_start (fun m hm => ⟨trivial, hm⟩) (0 : Int) (List.replicate (x.length : Int).toNat ((0 : Int), ((0 : Int), ((⟨#[]⟩ : ByteArray), ())))) rfl (Int.natCast_nonneg 0) trivial (ok_then h (fun v0 h hv0 => (have h := ok_ret h; h)) (fun _ h => h.elim)))⟩⟩⟩

/-! 84: loop.example/tablehouse/laws.toValueSS -/
def c84 : Con := ⟨[.dat (Ty.sl (Ty.sl TValue))], fun args hp K => args1 (fun a0 => withD (Ty.sl (Ty.sl TValue)) a0 fun x => (Sm (Ty.sl (Ty.sl TValue)) x) ∧ (∀ r : (List (List (TValue).D)), r = (x) → K (.own 0 none) [(0, .arr true (Ty.sl TValue) r)])) args hp, .plain⟩
def cons84 : Cons := [(121, c121)]
def inl84 : List (Nat × Inl) := []
@[reducible] def C84 : Ctx := ⟨tab, fun t => memN t cmps, cons84, 23, inl84, 0, true⟩
theorem consOk84 : ConsOk P C84 := by
  refine consOk_cons (enter_ok (fn := f121) func121 (by kernel_rfl) rfl) con121_ok ?_
  exact consOk_nil
def ann84 : Nat → List Dir
  | 0 => [.keep [0]]
  | 1 => [.keep [0, 3]]
  | 2 => [.keep [0, 3, 4]]
  | 3 => [.keep [0, 3, 4, 11]]
  | 4 => [.keep [0, 3, 4]]
  | 5 => [.keep [0, 3, 4]]
  | 6 => [.keep [2]]
  | 100000 => [.keep [3]]
  | _ => []
@[reducible] def LP84_0 (x : (List (List (TValue).D))) (m : Nat) (st_ : St) (K : X → St → Prop) : Prop := (True) ∧ LoopI (fun (i0 : Int) (v0 : (List (List (TValue).D))) => (⟨[(0, .data (Ty.sl (Ty.sl TValue)) x), (3, .own 7 none), (4, .data TInt i0)], [(7, .arr true (Ty.sl TValue) v0)]⟩ : St)) (0 : Int) (x.length : Int) (F.laws_toValueSS_l0 x) (fun v0 : (List (List (TValue).D)) => True) (outD (fun v0 : (List (List (TValue).D)) => True → K (.exit 0) (⟨[(3, .own 7 none)], [(7, .arr true (Ty.sl TValue) v0)]⟩ : St)) (fun _ => False)) m st_
def L84 (x : (List (List (TValue).D))) : Loops := fun id m st_ K => match id with
  | 0 => LP84_0 x m st_ K
  | _ => False
theorem vc84 (x : (List (List (TValue).D))) (K : AV → Hp → Prop) : awp C84 (L84 x) ann84 (bodyOf f84) ⟨argEnv 0 [.data (Ty.sl (Ty.sl TValue)) x], []⟩ (outK tab true f84.results.toList (hasBox []) (resK .raw K)) =
  (((x.length : Int) = (x.length : Int)) ∧ (0 ≤ (x.length : Int)) ∧ ((x.length : Int) * 24 ≤ (lim : Int)) ∧ (∃ m_, (True) ∧ LoopI (fun (i0 : Int) (v0 : (List (List (TValue).D))) => (⟨[(0, .data (Ty.sl (Ty.sl TValue)) x), (3, .own 7 none), (4, .data TInt i0)], [(7, .arr true (Ty.sl TValue) v0)]⟩ : St)) (0 : Int) (x.length : Int) (F.laws_toValueSS_l0 x) (fun v0 : (List (List (TValue).D)) => True) (outD (fun v0 : (List (List (TValue).D)) => True → K (.own 0 none) [(0, .arr true (Ty.sl TValue) v0)]) (fun _ => False)) m_ (⟨[(0, .data (Ty.sl (Ty.sl TValue)) x), (3, .own 7 none), (4, .data TInt (0 : Int))], [(7, .arr true (Ty.sl TValue) (List.replicate (x.length : Int).toNat []))]⟩ : St))) := by kernel_rfl
theorem lvc84_0 (x : (List (List (TValue).D)))  (i0 : Int) (v0 : (List (List (TValue).D))) (m : Nat) (K : X → St → Prop) : awp C84 (L84 x) ann84 (loopAt (bodyOf f84) 0) (⟨[(0, .data (Ty.sl (Ty.sl TValue)) x), (3, .own 7 none), (4, .data TInt i0)], [(7, .arr true (Ty.sl TValue) v0)]⟩ : St) (thenW (fun s' => ∃ m', m' < m ∧ (L84 x) 0 m' s' K) (exitN 0 (ann84 (behind 0)) K)) =
  (cond (decide (i0 < (x.length : Int))) ((0 ≤ i0) ∧ (i0 < (x.length : Int)) ∧ (Sm (Ty.sl TValue) (nth (t := (Ty.sl TValue)) x i0)) ∧ (∀ r_5_6 : (List (TValue).D), r_5_6 = ((nth (t := (Ty.sl TValue)) x i0)) → (0 ≤ i0) ∧ (i0 < (v0.length : Int)) ∧ (∃ m_, m_ < m ∧ (L84 x) 0 m_ (⟨[(0, .data (Ty.sl (Ty.sl TValue)) x), (3, .own 7 none), (4, .data TInt (wrap64 (i0 + (1 : Int))))], [(7, .arr true (Ty.sl TValue) (v0.set i0.toNat r_5_6))]⟩ : St) K))) (K (.exit 0) (⟨[(3, .own 7 none)], [(7, .arr true (Ty.sl TValue) v0)]⟩ : St))) := by kernel_rfl
theorem con84_ok : ConOk P 84 c84 := by
  refine con_okR (fn := f84) (code := bodyOf f84) (tab_ok tab_check cmp_check) consOk84 mixed func84 rfl rfl fun args hp K h0 => ?_
  obtain ⟨a0, rfl, rfl, h1⟩ := args1_elim h0
  obtain ⟨x, rfl, h2⟩ := withD_elim h1
  obtain ⟨h_x, hK⟩ := h2
  have h : ok (F.laws_toValueSS x) (fun r => K (.own 0 none) [(0, .arr true (Ty.sl TValue) r)]) := ok_of_eq (F.laws_toValueSS_eq x h_x) (hK _ rfl)
  refine ⟨⟨show (1 : Nat) ≤ 23 by decide, show (1 : Nat) ≤ 1000000 by decide⟩, ann84, (L84 x), .raw, (loopsN1 (i0 := 0) (by kernel_rfl) ?_), ?_⟩
  · clear h
    intro m_ s_ K_ h
    obtain ⟨hc0, i0, v0, rfl, hl0, rfl, hv0, h⟩ := (show LP84_0 x m_ s_ K_ from h)
    rw [lvc84_0 x i0 v0 _ K_]
    exact (loopI_step h (fun ht0 h => ⟨hl0, ⟨ht0, ⟨(sm_nth h_x i0), (fun r_5_6 e_r_5_6 => have h := ok_let h r_5_6 e_r_5_6; ⟨hl0, ⟨(ok_guard h).1, have h := (ok_guard h).2; (loopI_next (fun m hm => (show LP84_0 x m _ _ from ⟨hc0, hm⟩)) (v0.set i0.toNat r_5_6) rfl hl0 low0 ht0 (sm_len h_x) trivial (have h := ok_ret h; h))⟩⟩)⟩⟩⟩) (fun h => (h trivial)))
  · rw [vc84 x K]
    exact ⟨rfl, ⟨(Int.natCast_nonneg _), ⟨(sm_limI h_x rfl), (loopI_start (fun m hm => ⟨trivial, hm⟩) (0 : Int) (List.replicate (x.length : Int).toNat []) rfl (Int.natCast_nonneg 0) trivial (ok_then h (fun v0 h hv0 => (have h := ok_ret h; h)) (fun _ h => h.elim)))⟩⟩⟩

/-! 39: loop.example/tablehouse/laws.toTable, in place -/
def cons39 : Cons := [(83, c83), (84, c84)]
@[reducible] def C39 : Ctx := ⟨tab, fun t => memN t cmps, cons39, 13, [], 200000, true⟩
theorem consOk39 : ConsOk P C39 := by
  refine consOk_cons (enter_ok (fn := f83) func83 (by kernel_rfl) rfl) con83_ok ?_
  refine consOk_cons (enter_ok (fn := f84) func84 (by kernel_rfl) rfl) con84_ok ?_
  exact consOk_nil
def T39 : Inl := inlT C39 (fun _ => []) (bodyOf f39) f39.results.toList
theorem inlOk39 : InlOk P 39 T39 := inl_ok (fn := f39) (code := bodyOf f39) (tab_ok tab_check cmp_check) consOk39 mixed func39 rfl rfl (by kernel_rfl)

/-! 11: loop.example/tablehouse/laws.toTableS -/
def c11 : Con := ⟨[.dat (Ty.sl TTable)], fun args hp K => args1 (fun a0 => withD (Ty.sl TTable) a0 fun x => (Sm (Ty.sl TTable) x) ∧ (∀ r : (List (TTable).D), r = (x) → K (.own 0 none) [(0, .arr true TTable r)])) args hp, .plain⟩
def cons11 : Cons := []
def inl11 : List (Nat × Inl) := [(39, T39)]
@[reducible] def C11 : Ctx := ⟨tab, fun t => memN t cmps, cons11, 23, inl11, 0, true⟩
theorem consOk11 : ConsOk P C11 := by
  refine consOk_inl (enter_ok (fn := f39) func39 (by kernel_rfl) rfl) inlOk39 ?_
  exact consOk_nil
def ann11 : Nat → List Dir
  | 0 => [.keep [0]]
  | 1 => [.keep [0, 3]]
  | 2 => [.keep [0, 3, 4]]
  | 3 => [.keep [0, 3, 4, 11]]
  | 4 => [.keep [0, 3, 4]]
  | 5 => [.keep [0, 3, 4]]
  | 6 => [.keep [2]]
  | 100000 => [.keep [3]]
  | _ => []
@[reducible] def LP11_0 (x : (List (TTable).D)) (m : Nat) (st_ : St) (K : X → St → Prop) : Prop := (True) ∧ LoopI (fun (i0 : Int) (v0 : (List (TTable).D)) => (⟨[(0, .data (Ty.sl TTable) x), (3, .own 7 none), (4, .data TInt i0)], [(7, .arr true TTable v0)]⟩ : St)) (0 : Int) (x.length : Int) (F.laws_toTableS_l0 x) (fun v0 : (List (TTable).D) => True) (outD (fun v0 : (List (TTable).D) => True → K (.exit 0) (⟨[(3, .own 7 none)], [(7, .arr true TTable v0)]⟩ : St)) (fun _ => False)) m st_
def L11 (x : (List (TTable).D)) : Loops := fun id m st_ K => match id with
  | 0 => LP11_0 x m st_ K
  | _ => False
theorem vc11 (x : (List (TTable).D)) (K : AV → Hp → Prop) : awp C11 (L11 x) ann11 (bodyOf f11) ⟨argEnv 0 [.data (Ty.sl TTable) x], []⟩ (outK tab true f11.results.toList (hasBox []) (resK .raw K)) =
  (((x.length : Int) = (x.length : Int)) ∧ (0 ≤ (x.length : Int)) ∧ ((x.length : Int) * 48 ≤ (lim : Int)) ∧ (∃ m_, (True) ∧ LoopI (fun (i0 : Int) (v0 : (List (TTable).D)) => (⟨[(0, .data (Ty.sl TTable) x), (3, .own 7 none), (4, .data TInt i0)], [(7, .arr true TTable v0)]⟩ : St)) (0 : Int) (x.length : Int) (F.laws_toTableS_l0 x) (fun v0 : (List (TTable).D) => True) (outD (fun v0 : (List (TTable).D) => True → K (.own 0 none) [(0, .arr true TTable v0)]) (fun _ => False)) m_ (⟨[(0, .data (Ty.sl TTable) x), (3, .own 7 none), (4, .data TInt (0 : Int))], [(7, .arr true TTable (List.replicate (x.length : Int).toNat ([], ([], ()))))]⟩ : St))) := by kernel_rfl
theorem lvc11_0 (x : (List (TTable).D))  (i0 : Int) (v0 : (List (TTable).D)) (m : Nat) (K : X → St → Prop) : awp C11 (L11 x) ann11 (loopAt (bodyOf f11) 0) (⟨[(0, .data (Ty.sl TTable) x), (3, .own 7 none), (4, .data TInt i0)], [(7, .arr true TTable v0)]⟩ : St) (thenW (fun s' => ∃ m', m' < m ∧ (L11 x) 0 m' s' K) (exitN 0 (ann11 (behind 0)) K)) =
  (cond (decide (i0 < (x.length : Int))) ((0 ≤ i0) ∧ (i0 < (x.length : Int)) ∧ (Sm (Ty.sl TColumn) ((nth (t := TTable) x i0).1)) ∧ (∀ r_1002_2 : (List (TColumn).D), r_1002_2 = (((nth (t := TTable) x i0).1)) → (Sm (Ty.sl (Ty.sl TValue)) (((nth (t := TTable) x i0).2).1)) ∧ (∀ r_1003_2 : (List (List (TValue).D)), r_1003_2 = ((((nth (t := TTable) x i0).2).1)) → (0 ≤ i0) ∧ (i0 < (v0.length : Int)) ∧ (∃ m_, m_ < m ∧ (L11 x) 0 m_ (⟨[(0, .data (Ty.sl TTable) x), (3, .own 7 none), (4, .data TInt (wrap64 (i0 + (1 : Int))))], [(7, .arr true TTable (v0.set i0.toNat (r_1002_2, (r_1003_2, ()))))]⟩ : St) K)))) (K (.exit 0) (⟨[(3, .own 7 none)], [(7, .arr true TTable v0)]⟩ : St))) := by kernel_rfl
theorem con11_ok : ConOk P 11 c11 := by
  refine con_okR (fn := f11) (code := bodyOf f11) (tab_ok tab_check cmp_check) consOk11 mixed func11 rfl rfl fun args hp K h0 => ?_
  obtain ⟨a0, rfl, rfl, h1⟩ := args1_elim h0
  obtain ⟨x, rfl, h2⟩ := withD_elim h1
  obtain ⟨h_x, hK⟩ := h2
  have h : ok (F.laws_toTableS x) (fun r => K (.own 0 none) [(0, .arr true TTable r)]) := ok_of_eq (F.laws_toTableS_eq x h_x) (hK _ rfl)
  refine ⟨⟨show (1 : Nat) ≤ 23 by decide, show (1 : Nat) ≤ 1000000 by decide⟩, ann11, (L11 x), .raw, (loopsN1 (i0 := 0) (by kernel_rfl) ?_), ?_⟩
  · clear h
    intro m_ s_ K_ h
    obtain ⟨hc0, i0, v0, rfl, hl0, rfl, hv0, h⟩ := (show LP11_0 x m_ s_ K_ from h)
    rw [lvc11_0 x i0 v0 _ K_]
    exact (loopI_step h (fun ht0 h => ⟨hl0, ⟨ht0, ⟨(sm_nth h_x i0).1, (fun r_1002_2 e_r_1002_2 => have h := ok_let h r_1002_2 e_r_1002_2; ⟨(sm_nth h_x i0).2.1, (fun r_1003_2 e_r_1003_2 => have h := ok_let h r_1003_2 e_r_1003_2; ⟨hl0, ⟨(ok_guard h).1, have h := (ok_guard h).2; (loopI_next (fun m hm => (show LP11_0 x m _ _ from ⟨hc0, hm⟩)) (v0.set i0.toNat (r_1002_2, (r_1003_2, ()))) rfl hl0 low0 ht0 (sm_len h_x) trivial (have h := ok_ret h; h))⟩⟩)⟩)⟩⟩⟩) (fun h => (h trivial)))
  · rw [vc11 x K]
    exact ⟨rfl, ⟨(Int.natCast_nonneg _), ⟨(sm_limI h_x rfl), (loopI_start (fun m hm => ⟨trivial, hm⟩) (0 : Int) (List.replicate (x.length : Int).toNat ([], ([], ()))) rfl (Int.natCast_nonneg 0) trivial (ok_then h (fun v0 h hv0 => (have h := ok_ret h; h)) (fun _ h => h.elim)))⟩⟩⟩

/-! 116: loop.example/tablehouse/laws.eqValue -/
def c116 : Con := ⟨[.dat TValue, .dat TValue], fun args hp K => args2 (fun a0 a1 => withD TValue a0 fun x => withD TValue a1 fun y => (Sm TValue x) ∧ (Sm TValue y) ∧ (x = y) ∧ K (.data Ty.bool (true)) []) args hp, .plain⟩
def cons116 : Cons := []
def inl116 : List (Nat × Inl) := []
@[reducible] def C116 : Ctx := ⟨tab, fun t => memN t cmps, cons116, 20, inl116, 0, false⟩
theorem consOk116 : ConsOk P C116 := by
  exact consOk_nil
def ann116 : Nat → List Dir
  | 0 => [.fixRow 2 TValue, .fixRow 3 TValue, .keep [2, 3]]
  | 1 => [.keep [2, 3, 9]]
  | 2 => [.keep [4]]
  | 3 => [.keep [2, 3, 14]]
  | 4 => [.keep [4]]
  | 5 => [.keep [19]]
  | 6 => [.keep [4]]
  | 7 => [.keep [4]]
  | _ => []
def L116 (x : (TValue).D) (y : (TValue).D) : Loops := fun id m st_ K => match id with
  | _ => False
theorem vc116 (x : (TValue).D) (y : (TValue).D) (K : AV → Hp → Prop) : awp C116 (L116 x y) ann116 (bodyOf f116) ⟨argEnv 0 [.data TValue x, .data TValue y], []⟩ (outK tab false f116.results.toList (hasBox []) (resK (.dat Ty.bool) K)) =
  (cond (!decide (x.1 = y.1)) (K (.data Ty.bool false) []) (cond (!decide (x.2.1 = y.2.1)) (K (.data Ty.bool false) []) (cond (!decide (x.2.2.1 = y.2.2.1)) (K (.data Ty.bool false) []) (K (.data Ty.bool true) [])))) := by kernel_rfl
theorem con116_ok : ConOk P 116 c116 := by
  refine con_okR (fn := f116) (code := bodyOf f116) (tab_ok tab_check cmp_check) consOk116 mixed func116 rfl rfl fun args hp K h0 => ?_
  obtain ⟨a0, a1, rfl, rfl, h1⟩ := args2_elim h0
  obtain ⟨x, rfl, h2⟩ := withD_elim h1
  obtain ⟨y, rfl, h3⟩ := withD_elim h2
  obtain ⟨h_x, h_y, p0, hK⟩ := h3
  have h : ok (F.laws_eqValue x y) (fun r => K (.data Ty.bool r) []) := ok_of_eq (F.laws_eqValue_eq x y h_x h_y p0) hK
  refine ⟨⟨show (2 : Nat) ≤ 20 by decide, show (2 : Nat) ≤ 1000000 by decide⟩, ann116, (L116 x y), (.dat Ty.bool), (no_loops (by kernel_rfl)), ?_⟩
  · rw [vc116 x y K]
    exact (ok_cond h (fun b_1 h => (have h := ok_ret h; h)) (fun b_1 h => (ok_cond h (fun b_2 h => (have h := ok_ret h; h)) (fun b_2 h => (ok_cond h (fun b_3 h => (have h := ok_ret h; h)) (fun b_3 h => (have h := ok_ret h; h)))))))

/-! 75: loop.example/tablehouse/laws.eqValueS -/
def c75 : Con := ⟨[.dat (Ty.sl TValue), .dat (Ty.sl TValue)], fun args hp K => args2 (fun a0 a1 => withD (Ty.sl TValue) a0 fun x => withD (Ty.sl TValue) a1 fun y => (Sm (Ty.sl TValue) x) ∧ (Sm (Ty.sl TValue) y) ∧ (x = y) ∧ K (.data Ty.bool (true)) []) args hp, .bor⟩
def cons75 : Cons := [(116, c116)]
def inl75 : List (Nat × Inl) := []
@[reducible] def C75 : Ctx := ⟨tab, fun t => memN t cmps, cons75, 27, inl75, 0, false⟩
theorem consOk75 : ConsOk P C75 := by
  refine consOk_cons (enter_ok (fn := f116) func116 (by kernel_rfl) rfl) con116_ok ?_
  exact consOk_nil
def ann75 : Nat → List Dir
  | 0 => [.keep [0, 1]]
  | 1 => [.keep [0, 1, 10]]
  | 2 => [.keep [4]]
  | 3 => [.keep [0, 1, 5]]
  | 4 => [.keep [0, 1, 5, 14]]
  | 5 => [.keep [0, 1, 5]]
  | 6 => [.keep [0, 1, 5, 26]]
  | 7 => [.keep [4]]
  | 8 => [.keep [4]]
  | 100000 => [.keep []]
  | _ => []
@[reducible] def LP75_0 (x : (List (TValue).D)) (y : (List (TValue).D)) (m : Nat) (st_ : St) (K : X → St → Prop) : Prop := (True) ∧ LoopI (fun (i0 : Int) (v0 : Unit) => (⟨[(0, .data (Ty.sl TValue) x), (1, .data (Ty.sl TValue) y), (5, .data TInt i0)], []⟩ : St)) (0 : Int) (x.length : Int) (F.laws_eqValueS_l0 x y) (fun v0 : Unit => True) (outD (fun v0 : Unit => True → K (.exit 0) (⟨[], []⟩ : St)) (fun q0 : Unit => K .ret (⟨[(4, .data Ty.bool false)], []⟩ : St))) m st_
def L75 (x : (List (TValue).D)) (y : (List (TValue).D)) : Loops := fun id m st_ K => match id with
  | 0 => LP75_0 x y m st_ K
  | _ => False
theorem vc75 (x : (List (TValue).D)) (y : (List (TValue).D)) (K : AV → Hp → Prop) : awp C75 (L75 x y) ann75 (bodyOf f75) ⟨argEnv 0 [.data (Ty.sl TValue) x, .data (Ty.sl TValue) y], []⟩ (outK tab false f75.results.toList (hasBox []) (resK (.dat Ty.bool) K)) =
  (cond (!decide ((x.length : Int) = (y.length : Int))) (K (.data Ty.bool false) []) ((∃ m_, (True) ∧ LoopI (fun (i0 : Int) (v0 : Unit) => (⟨[(0, .data (Ty.sl TValue) x), (1, .data (Ty.sl TValue) y), (5, .data TInt i0)], []⟩ : St)) (0 : Int) (x.length : Int) (F.laws_eqValueS_l0 x y) (fun v0 : Unit => True) (outD (fun v0 : Unit => True → K (.data Ty.bool true) []) (fun q0 : Unit => K (.data Ty.bool false) [])) m_ (⟨[(0, .data (Ty.sl TValue) x), (1, .data (Ty.sl TValue) y), (5, .data TInt (0 : Int))], []⟩ : St)))) := by kernel_rfl
theorem lvc75_0 (x : (List (TValue).D)) (y : (List (TValue).D))  (i0 : Int) (v0 : Unit) (m : Nat) (K : X → St → Prop) : awp C75 (L75 x y) ann75 (loopAt (bodyOf f75) 0) (⟨[(0, .data (Ty.sl TValue) x), (1, .data (Ty.sl TValue) y), (5, .data TInt i0)], []⟩ : St) (thenW (fun s' => ∃ m', m' < m ∧ (L75 x y) 0 m' s' K) (exitN 0 (ann75 (behind 0)) K)) =
  (cond (decide (i0 < (x.length : Int))) ((0 ≤ i0) ∧ (i0 < (x.length : Int)) ∧ (0 ≤ i0) ∧ (i0 < (y.length : Int)) ∧ (Sm TValue (nth (t := TValue) x i0)) ∧ (Sm TValue (nth (t := TValue) y i0)) ∧ ((nth (t := TValue) x i0) = (nth (t := TValue) y i0)) ∧ cond (!(true)) (K .ret (⟨[(4, .data Ty.bool false)], []⟩ : St)) ((∃ m_, m_ < m ∧ (L75 x y) 0 m_ (⟨[(0, .data (Ty.sl TValue) x), (1, .data (Ty.sl TValue) y), (5, .data TInt (wrap64 (i0 + (1 : Int))))], []⟩ : St) K))) (K (.exit 0) (⟨[], []⟩ : St))) := by kernel_rfl
theorem con75_ok : ConOk P 75 c75 := by
  refine con_okR (fn := f75) (code := bodyOf f75) (tab_ok tab_check cmp_check) consOk75 mixed func75 rfl rfl fun args hp K h0 => ?_
  obtain ⟨a0, a1, rfl, rfl, h1⟩ := args2_elim h0
  obtain ⟨x, rfl, h2⟩ := withD_elim h1
  obtain ⟨y, rfl, h3⟩ := withD_elim h2
  obtain ⟨h_x, h_y, p0, hK⟩ := h3
  have h : ok (F.laws_eqValueS x y) (fun r => K (.data Ty.bool r) []) := ok_of_eq (F.laws_eqValueS_eq x y h_x h_y p0) hK
  refine ⟨⟨show (2 : Nat) ≤ 27 by decide, show (2 : Nat) ≤ 1000000 by decide⟩, ann75, (L75 x y), (.dat Ty.bool), (loopsN1 (i0 := 0) (by kernel_rfl) ?_), ?_⟩
  · clear h
    intro m_ s_ K_ h
    obtain ⟨hc0, i0, v0, rfl, hl0, rfl, hv0, h⟩ := (show LP75_0 x y m_ s_ K_ from h)
    rw [lvc75_0 x y i0 v0 _ K_]
    exact (loopI_step h (fun ht0 h => ⟨hl0, ⟨ht0, ⟨hl0, ⟨(ok_guard h).1, have h := (ok_guard h).2; ⟨(sm_nth h_x i0), ⟨(sm_nth h_y i0), ⟨(ok_guard h).1, have h := (ok_guard h).2; (ok_cond h (fun b_16 h => (have h := ok_ret h; h)) (fun b_16 h => (loopI_next (fun m hm => (show LP75_0 x y m _ _ from ⟨hc0, hm⟩)) () rfl hl0 low0 ht0 (sm_len h_x) trivial (have h := ok_ret h; h))))⟩⟩⟩⟩⟩⟩⟩) (fun h => (h trivial)))
  · rw [vc75 x y K]
    exact (ok_cond h (fun b_1 h => (have h := ok_ret h; h)) (fun b_1 h => (loopI_start (fun m hm => ⟨trivial, hm⟩) (0 : Int) () rfl (Int.natCast_nonneg 0) trivial (ok_then h (fun v0 h hv0 => (have h := ok_ret h; h)) (fun q0 h => (have h := ok_ret h; h))))))

/-! 32: loop.example/tablehouse/laws.eqValueSS -/
def c32 : Con := ⟨[.dat (Ty.sl (Ty.sl TValue)), .dat (Ty.sl (Ty.sl TValue))], fun args hp K => args2 (fun a0 a1 => withD (Ty.sl (Ty.sl TValue)) a0 fun x => withD (Ty.sl (Ty.sl TValue)) a1 fun y => (Sm (Ty.sl (Ty.sl TValue)) x) ∧ (Sm (Ty.sl (Ty.sl TValue)) y) ∧ (x = y) ∧ K (.data Ty.bool (true)) []) args hp, .bor⟩
def cons32 : Cons := [(75, c75)]
def inl32 : List (Nat × Inl) := []
@[reducible] def C32 : Ctx := ⟨tab, fun t => memN t cmps, cons32, 27, inl32, 0, false⟩
theorem consOk32 : ConsOk P C32 := by
  refine consOk_cons (enter_ok (fn := f75) func75 (by kernel_rfl) rfl) con75_ok ?_
  exact consOk_nil
def ann32 : Nat → List Dir
  | 0 => [.keep [0, 1]]
  | 1 => [.keep [0, 1, 10]]
  | 2 => [.keep [4]]
  | 3 => [.keep [0, 1, 5]]
  | 4 => [.keep [0, 1, 5, 14]]
  | 5 => [.keep [0, 1, 5]]
  | 6 => [.keep [0, 1, 5, 26]]
  | 7 => [.keep [4]]
  | 8 => [.keep [4]]
  | 100000 => [.keep []]
  | _ => []
@[reducible] def LP32_0 (x : (List (List (TValue).D))) (y : (List (List (TValue).D))) (m : Nat) (st_ : St) (K : X → St → Prop) : Prop := (True) ∧ LoopI (fun (i0 : Int) (v0 : Unit) => (⟨[(0, .data (Ty.sl (Ty.sl TValue)) x), (1, .data (Ty.sl (Ty.sl TValue)) y), (5, .data TInt i0)], []⟩ : St)) (0 : Int) (x.length : Int) (F.laws_eqValueSS_l0 x y) (fun v0 : Unit => True) (outD (fun v0 : Unit => True → K (.exit 0) (⟨[], []⟩ : St)) (fun q0 : Unit => K .ret (⟨[(4, .data Ty.bool false)], []⟩ : St))) m st_
def L32 (x : (List (List (TValue).D))) (y : (List (List (TValue).D))) : Loops := fun id m st_ K => match id with
  | 0 => LP32_0 x y m st_ K
  | _ => False
theorem vc32 (x : (List (List (TValue).D))) (y : (List (List (TValue).D))) (K : AV → Hp → Prop) : awp C32 (L32 x y) ann32 (bodyOf f32) ⟨argEnv 0 [.data (Ty.sl (Ty.sl TValue)) x, .data (Ty.sl (Ty.sl TValue)) y], []⟩ (outK tab false f32.results.toList (hasBox []) (resK (.dat Ty.bool) K)) =
  (cond (!decide ((x.length : Int) = (y.length : Int))) (K (.data Ty.bool false) []) ((∃ m_, (True) ∧ LoopI (fun (i0 : Int) (v0 : Unit) => (⟨[(0, .data (Ty.sl (Ty.sl TValue)) x), (1, .data (Ty.sl (Ty.sl TValue)) y), (5, .data TInt i0)], []⟩ : St)) (0 : Int) (x.length : Int) (F.laws_eqValueSS_l0 x y) (fun v0 : Unit => True) (outD (fun v0 : Unit => True → K (.data Ty.bool true) []) (fun q0 : Unit => K (.data Ty.bool false) [])) m_ (⟨[(0, .data (Ty.sl (Ty.sl TValue)) x), (1, .data (Ty.sl (Ty.sl TValue)) y), (5, .data TInt (0 : Int))], []⟩ : St)))) := by kernel_rfl
theorem lvc32_0 (x : (List (List (TValue).D))) (y : (List (List (TValue).D)))  (i0 : Int) (v0 : Unit) (m : Nat) (K : X → St → Prop) : awp C32 (L32 x y) ann32 (loopAt (bodyOf f32) 0) (⟨[(0, .data (Ty.sl (Ty.sl TValue)) x), (1, .data (Ty.sl (Ty.sl TValue)) y), (5, .data TInt i0)], []⟩ : St) (thenW (fun s' => ∃ m', m' < m ∧ (L32 x y) 0 m' s' K) (exitN 0 (ann32 (behind 0)) K)) =
  (cond (decide (i0 < (x.length : Int))) ((0 ≤ i0) ∧ (i0 < (x.length : Int)) ∧ (0 ≤ i0) ∧ (i0 < (y.length : Int)) ∧ (Sm (Ty.sl TValue) (nth (t := (Ty.sl TValue)) x i0)) ∧ (Sm (Ty.sl TValue) (nth (t := (Ty.sl TValue)) y i0)) ∧ ((nth (t := (Ty.sl TValue)) x i0) = (nth (t := (Ty.sl TValue)) y i0)) ∧ cond (!(true)) (K .ret (⟨[(4, .data Ty.bool false)], []⟩ : St)) ((∃ m_, m_ < m ∧ (L32 x y) 0 m_ (⟨[(0, .data (Ty.sl (Ty.sl TValue)) x), (1, .data (Ty.sl (Ty.sl TValue)) y), (5, .data TInt (wrap64 (i0 + (1 : Int))))], []⟩ : St) K))) (K (.exit 0) (⟨[], []⟩ : St))) := by kernel_rfl
theorem con32_ok : ConOk P 32 c32 := by
  refine con_okR (fn := f32) (code := bodyOf f32) (tab_ok tab_check cmp_check) consOk32 mixed func32 rfl rfl fun args hp K h0 => ?_
  obtain ⟨a0, a1, rfl, rfl, h1⟩ := args2_elim h0
  obtain ⟨x, rfl, h2⟩ := withD_elim h1
  obtain ⟨y, rfl, h3⟩ := withD_elim h2
  obtain ⟨h_x, h_y, p0, hK⟩ := h3
  have h : ok (F.laws_eqValueSS x y) (fun r => K (.data Ty.bool r) []) := ok_of_eq (F.laws_eqValueSS_eq x y h_x h_y p0) hK
  refine ⟨⟨show (2 : Nat) ≤ 27 by decide, show (2 : Nat) ≤ 1000000 by decide⟩, ann32, (L32 x y), (.dat Ty.bool), (loopsN1 (i0 := 0) (by kernel_rfl) ?_), ?_⟩
  · clear h
    intro m_ s_ K_ h
    obtain ⟨hc0, i0, v0, rfl, hl0, rfl, hv0, h⟩ := (show LP32_0 x y m_ s_ K_ from h)
    rw [lvc32_0 x y i0 v0 _ K_]
    exact (loopI_step h (fun ht0 h => ⟨hl0, ⟨ht0, ⟨hl0, ⟨(ok_guard h).1, have h := (ok_guard h).2; ⟨(sm_nth h_x i0), ⟨(sm_nth h_y i0), ⟨(ok_guard h).1, have h := (ok_guard h).2; (ok_cond h (fun b_16 h => (have h := ok_ret h; h)) (fun b_16 h => (loopI_next (fun m hm => (show LP32_0 x y m _ _ from ⟨hc0, hm⟩)) () rfl hl0 low0 ht0 (sm_len h_x) trivial (have h := ok_ret h; h))))⟩⟩⟩⟩⟩⟩⟩) (fun h => (h trivial)))
  · rw [vc32 x y K]
    exact (ok_cond h (fun b_1 h => (have h := ok_ret h; h)) (fun b_1 h => (loopI_start (fun m hm => ⟨trivial, hm⟩) (0 : Int) () rfl (Int.natCast_nonneg 0) trivial (ok_then h (fun v0 h hv0 => (have h := ok_ret h; h)) (fun q0 h => (have h := ok_ret h; h))))))

/-! 125: loop.example/tablehouse/laws.eqColumn -/
def c125 : Con := ⟨[.dat TColumn, .dat TColumn], fun args hp K => args2 (fun a0 a1 => withD TColumn a0 fun x => withD TColumn a1 fun y => (x = y) ∧ K (.data Ty.bool (true)) []) args hp, .plain⟩
def cons125 : Cons := []
def inl125 : List (Nat × Inl) := []
@[reducible] def C125 : Ctx := ⟨tab, fun t => memN t cmps, cons125, 15, inl125, 0, false⟩
theorem consOk125 : ConsOk P C125 := by
  exact consOk_nil
def ann125 : Nat → List Dir
  | 0 => [.fixRow 2 TColumn, .fixRow 3 TColumn, .keep [2, 3]]
  | 1 => [.keep [2, 3, 9]]
  | 2 => [.keep [4]]
  | 3 => [.keep [14]]
  | 4 => [.keep [4]]
  | 5 => [.keep [4]]
  | _ => []
def L125 (x : (TColumn).D) (y : (TColumn).D) : Loops := fun id m st_ K => match id with
  | _ => False
theorem vc125 (x : (TColumn).D) (y : (TColumn).D) (K : AV → Hp → Prop) : awp C125 (L125 x y) ann125 (bodyOf f125) ⟨argEnv 0 [.data TColumn x, .data TColumn y], []⟩ (outK tab false f125.results.toList (hasBox []) (resK (.dat Ty.bool) K)) =
  (cond (!decide (x.1 = y.1)) (K (.data Ty.bool false) []) (cond (!(Ty.beq Ty.bool x.2.1 y.2.1)) (K (.data Ty.bool false) []) (K (.data Ty.bool true) []))) := by kernel_rfl
theorem con125_ok : ConOk P 125 c125 := by
  refine con_okR (fn := f125) (code := bodyOf f125) (tab_ok tab_check cmp_check) consOk125 mixed func125 rfl rfl fun args hp K h0 => ?_
  obtain ⟨a0, a1, rfl, rfl, h1⟩ := args2_elim h0
  obtain ⟨x, rfl, h2⟩ := withD_elim h1
  obtain ⟨y, rfl, h3⟩ := withD_elim h2
  obtain ⟨p0, hK⟩ := h3
  have h : ok (F.laws_eqColumn x y) (fun r => K (.data Ty.bool r) []) := ok_of_eq (F.laws_eqColumn_eq x y p0) hK
  refine ⟨⟨show (2 : Nat) ≤ 15 by decide, show (2 : Nat) ≤ 1000000 by decide⟩, ann125, (L125 x y), (.dat Ty.bool), (no_loops (by kernel_rfl)), ?_⟩
  · rw [vc125 x y K]
    exact (ok_cond h (fun b_1 h => (have h := ok_ret h; h)) (fun b_1 h => (ok_cond h (fun b_2 h => (have h := ok_ret h; h)) (fun b_2 h => (have h := ok_ret h; h)))))

/-! 93: loop.example/tablehouse/laws.eqColumnS -/
def c93 : Con := ⟨[.dat (Ty.sl TColumn), .dat (Ty.sl TColumn)], fun args hp K => args2 (fun a0 a1 => withD (Ty.sl TColumn) a0 fun x => withD (Ty.sl TColumn) a1 fun y => (Sm (Ty.sl TColumn) x) ∧ (Sm (Ty.sl TColumn) y) ∧ (x = y) ∧ K (.data Ty.bool (true)) []) args hp, .bor⟩
def cons93 : Cons := [(125, c125)]
def inl93 : List (Nat × Inl) := []
@[reducible] def C93 : Ctx := ⟨tab, fun t => memN t cmps, cons93, 27, inl93, 0, false⟩
theorem consOk93 : ConsOk P C93 := by
  refine consOk_cons (enter_ok (fn := f125) func125 (by kernel_rfl) rfl) con125_ok ?_
  exact consOk_nil
def ann93 : Nat → List Dir
  | 0 => [.keep [0, 1]]
  | 1 => [.keep [0, 1, 10]]
  | 2 => [.keep [4]]
  | 3 => [.keep [0, 1, 5]]
  | 4 => [.keep [0, 1, 5, 14]]
  | 5 => [.keep [0, 1, 5]]
  | 6 => [.keep [0, 1, 5, 26]]
  | 7 => [.keep [4]]
  | 8 => [.keep [4]]
  | 100000 => [.keep []]
  | _ => []
@[reducible] def LP93_0 (x : (List (TColumn).D)) (y : (List (TColumn).D)) (m : Nat) (st_ : St) (K : X → St → Prop) : Prop := (True) ∧ LoopI (fun (i0 : Int) (v0 : Unit) => (⟨[(0, .data (Ty.sl TColumn) x), (1, .data (Ty.sl TColumn) y), (5, .data TInt i0)], []⟩ : St)) (0 : Int) (x.length : Int) (F.laws_eqColumnS_l0 x y) (fun v0 : Unit => True) (outD (fun v0 : Unit => True → K (.exit 0) (⟨[], []⟩ : St)) (fun q0 : Unit => K .ret (⟨[(4, .data Ty.bool false)], []⟩ : St))) m st_
def L93 (x : (List (TColumn).D)) (y : (List (TColumn).D)) : Loops := fun id m st_ K => match id with
  | 0 => LP93_0 x y m st_ K
  | _ => False
theorem vc93 (x : (List (TColumn).D)) (y : (List (TColumn).D)) (K : AV → Hp → Prop) : awp C93 (L93 x y) ann93 (bodyOf f93) ⟨argEnv 0 [.data (Ty.sl TColumn) x, .data (Ty.sl TColumn) y], []⟩ (outK tab false f93.results.toList (hasBox []) (resK (.dat Ty.bool) K)) =
  (cond (!decide ((x.length : Int) = (y.length : Int))) (K (.data Ty.bool false) []) ((∃ m_, (True) ∧ LoopI (fun (i0 : Int) (v0 : Unit) => (⟨[(0, .data (Ty.sl TColumn) x), (1, .data (Ty.sl TColumn) y), (5, .data TInt i0)], []⟩ : St)) (0 : Int) (x.length : Int) (F.laws_eqColumnS_l0 x y) (fun v0 : Unit => True) (outD (fun v0 : Unit => True → K (.data Ty.bool true) []) (fun q0 : Unit => K (.data Ty.bool false) [])) m_ (⟨[(0, .data (Ty.sl TColumn) x), (1, .data (Ty.sl TColumn) y), (5, .data TInt (0 : Int))], []⟩ : St)))) := by kernel_rfl
theorem lvc93_0 (x : (List (TColumn).D)) (y : (List (TColumn).D))  (i0 : Int) (v0 : Unit) (m : Nat) (K : X → St → Prop) : awp C93 (L93 x y) ann93 (loopAt (bodyOf f93) 0) (⟨[(0, .data (Ty.sl TColumn) x), (1, .data (Ty.sl TColumn) y), (5, .data TInt i0)], []⟩ : St) (thenW (fun s' => ∃ m', m' < m ∧ (L93 x y) 0 m' s' K) (exitN 0 (ann93 (behind 0)) K)) =
  (cond (decide (i0 < (x.length : Int))) ((0 ≤ i0) ∧ (i0 < (x.length : Int)) ∧ (0 ≤ i0) ∧ (i0 < (y.length : Int)) ∧ ((nth (t := TColumn) x i0) = (nth (t := TColumn) y i0)) ∧ cond (!(true)) (K .ret (⟨[(4, .data Ty.bool false)], []⟩ : St)) ((∃ m_, m_ < m ∧ (L93 x y) 0 m_ (⟨[(0, .data (Ty.sl TColumn) x), (1, .data (Ty.sl TColumn) y), (5, .data TInt (wrap64 (i0 + (1 : Int))))], []⟩ : St) K))) (K (.exit 0) (⟨[], []⟩ : St))) := by kernel_rfl
theorem con93_ok : ConOk P 93 c93 := by
  refine con_okR (fn := f93) (code := bodyOf f93) (tab_ok tab_check cmp_check) consOk93 mixed func93 rfl rfl fun args hp K h0 => ?_
  obtain ⟨a0, a1, rfl, rfl, h1⟩ := args2_elim h0
  obtain ⟨x, rfl, h2⟩ := withD_elim h1
  obtain ⟨y, rfl, h3⟩ := withD_elim h2
  obtain ⟨h_x, h_y, p0, hK⟩ := h3
  have h : ok (F.laws_eqColumnS x y) (fun r => K (.data Ty.bool r) []) := ok_of_eq (F.laws_eqColumnS_eq x y h_x h_y p0) hK
  refine ⟨⟨show (2 : Nat) ≤ 27 by decide, show (2 : Nat) ≤ 1000000 by decide⟩, ann93, (L93 x y), (.dat Ty.bool), (loopsN1 (i0 := 0) (by kernel_rfl) ?_), ?_⟩
  · clear h
    intro m_ s_ K_ h
    obtain ⟨hc0, i0, v0, rfl, hl0, rfl, hv0, h⟩ := (show LP93_0 x y m_ s_ K_ from h)
    rw [lvc93_0 x y i0 v0 _ K_]
    exact (loopI_step h (fun ht0 h => ⟨hl0, ⟨ht0, ⟨hl0, ⟨(ok_guard h).1, have h := (ok_guard h).2; ⟨(ok_guard h).1, have h := (ok_guard h).2; (ok_cond h (fun b_16 h => (have h := ok_ret h; h)) (fun b_16 h => (loopI_next (fun m hm => (show LP93_0 x y m _ _ from ⟨hc0, hm⟩)) () rfl hl0 low0 ht0 (sm_len h_x) trivial (have h := ok_ret h; h))))⟩⟩⟩⟩⟩) (fun h => (h trivial)))
  · rw [vc93 x y K]
    exact (ok_cond h (fun b_1 h => (have h := ok_ret h; h)) (fun b_1 h => (loopI_start (fun m hm => ⟨trivial, hm⟩) (0 : Int) () rfl (Int.natCast_nonneg 0) trivial (ok_then h (fun v0 h hv0 => (have h := ok_ret h; h)) (fun q0 h => (have h := ok_ret h; h))))))

/-! 44: loop.example/tablehouse/laws.eqTable -/
def c44 : Con := ⟨[.dat TTable, .dat TTable], fun args hp K => args2 (fun a0 a1 => withD TTable a0 fun x => withD TTable a1 fun y => (Sm TTable x) ∧ (Sm TTable y) ∧ (x = y) ∧ K (.data Ty.bool (true)) []) args hp, .plain⟩
def cons44 : Cons := [(32, c32), (93, c93)]
def inl44 : List (Nat × Inl) := []
@[reducible] def C44 : Ctx := ⟨tab, fun t => memN t cmps, cons44, 17, inl44, 0, false⟩
theorem consOk44 : ConsOk P C44 := by
  refine consOk_cons (enter_ok (fn := f32) func32 (by kernel_rfl) rfl) con32_ok ?_
  refine consOk_cons (enter_ok (fn := f93) func93 (by kernel_rfl) rfl) con93_ok ?_
  exact consOk_nil
def ann44 : Nat → List Dir
  | 0 => [.fixRow 2 TTable, .fixRow 3 TTable, .keep [2, 3]]
  | 1 => [.keep [2, 3, 10]]
  | 2 => [.keep [4]]
  | 3 => [.keep [16]]
  | 4 => [.keep [4]]
  | 5 => [.keep [4]]
  | _ => []
def L44 (x : (TTable).D) (y : (TTable).D) : Loops := fun id m st_ K => match id with
  | _ => False
theorem vc44 (x : (TTable).D) (y : (TTable).D) (K : AV → Hp → Prop) : awp C44 (L44 x y) ann44 (bodyOf f44) ⟨argEnv 0 [.data TTable x, .data TTable y], []⟩ (outK tab false f44.results.toList (hasBox []) (resK (.dat Ty.bool) K)) =
  ((Sm (Ty.sl TColumn) x.1) ∧ (Sm (Ty.sl TColumn) y.1) ∧ (x.1 = y.1) ∧ cond (!(true)) (K (.data Ty.bool false) []) ((Sm (Ty.sl (Ty.sl TValue)) x.2.1) ∧ (Sm (Ty.sl (Ty.sl TValue)) y.2.1) ∧ (x.2.1 = y.2.1) ∧ cond (!(true)) (K (.data Ty.bool false) []) (K (.data Ty.bool true) []))) := by kernel_rfl
theorem con44_ok : ConOk P 44 c44 := by
  refine con_okR (fn := f44) (code := bodyOf f44) (tab_ok tab_check cmp_check) consOk44 mixed func44 rfl rfl fun args hp K h0 => ?_
  obtain ⟨a0, a1, rfl, rfl, h1⟩ := args2_elim h0
  obtain ⟨x, rfl, h2⟩ := withD_elim h1
  obtain ⟨y, rfl, h3⟩ := withD_elim h2
  obtain ⟨h_x, h_y, p0, hK⟩ := h3
  have h : ok (F.laws_eqTable x y) (fun r => K (.data Ty.bool r) []) := ok_of_eq (F.laws_eqTable_eq x y h_x h_y p0) hK
  refine ⟨⟨show (2 : Nat) ≤ 17 by decide, show (2 : Nat) ≤ 1000000 by decide⟩, ann44, (L44 x y), (.dat Ty.bool), (no_loops (by kernel_rfl)), ?_⟩
  · rw [vc44 x y K]
    exact ⟨h_x.1, ⟨h_y.1, ⟨(ok_guard h).1, have h := (ok_guard h).2; (ok_cond h (fun b_2 h => (have h := ok_ret h; h)) (fun b_2 h => ⟨h_x.2.1, ⟨h_y.2.1, ⟨(ok_guard h).1, have h := (ok_guard h).2; (cond_f (unf (bnf b_2)) (have h := ok_ret h; h))⟩⟩⟩))⟩⟩⟩

/-! 15: loop.example/tablehouse/laws.eqTableS -/
def c15 : Con := ⟨[.dat (Ty.sl TTable), .dat (Ty.sl TTable)], fun args hp K => args2 (fun a0 a1 => withD (Ty.sl TTable) a0 fun x => withD (Ty.sl TTable) a1 fun y => (Sm (Ty.sl TTable) x) ∧ (Sm (Ty.sl TTable) y) ∧ (x = y) ∧ K (.data Ty.bool (true)) []) args hp, .bor⟩
def cons15 : Cons := [(44, c44)]
def inl15 : List (Nat × Inl) := []
@[reducible] def C15 : Ctx := ⟨tab, fun t => memN t cmps, cons15, 27, inl15, 0, false⟩
theorem consOk15 : ConsOk P C15 := by
  refine consOk_cons (enter_ok (fn := f44) func44 (by kernel_rfl) rfl) con44_ok ?_
  exact consOk_nil
def ann15 : Nat → List Dir
  | 0 => [.keep [0, 1]]
  | 1 => [.keep [0, 1, 10]]
  | 2 => [.keep [4]]
  | 3 => [.keep [0, 1, 5]]
  | 4 => [.keep [0, 1, 5, 14]]
  | 5 => [.keep [0, 1, 5]]
  | 6 => [.keep [0, 1, 5, 26]]
  | 7 => [.keep [4]]
  | 8 => [.keep [4]]
  | 100000 => [.keep []]
  | _ => []
@[reducible] def LP15_0 (x : (List (TTable).D)) (y : (List (TTable).D)) (m : Nat) (st_ : St) (K : X → St → Prop) : Prop := (True) ∧ LoopI (fun (i0 : Int) (v0 : Unit) => (⟨[(0, .data (Ty.sl TTable) x), (1, .data (Ty.sl TTable) y), (5, .data TInt i0)], []⟩ : St)) (0 : Int) (x.length : Int) (F.laws_eqTableS_l0 x y) (fun v0 : Unit => True) (outD (fun v0 : Unit => True → K (.exit 0) (⟨[], []⟩ : St)) (fun q0 : Unit => K .ret (⟨[(4, .data Ty.bool false)], []⟩ : St))) m st_
def L15 (x : (List (TTable).D)) (y : (List (TTable).D)) : Loops := fun id m st_ K => match id with
  | 0 => LP15_0 x y m st_ K
  | _ => False
theorem vc15 (x : (List (TTable).D)) (y : (List (TTable).D)) (K : AV → Hp → Prop) : awp C15 (L15 x y) ann15 (bodyOf f15) ⟨argEnv 0 [.data (Ty.sl TTable) x, .data (Ty.sl TTable) y], []⟩ (outK tab false f15.results.toList (hasBox []) (resK (.dat Ty.bool) K)) =
  (cond (!decide ((x.length : Int) = (y.length : Int))) (K (.data Ty.bool false) []) ((∃ m_, (True) ∧ LoopI (fun (i0 : Int) (v0 : Unit) => (⟨[(0, .data (Ty.sl TTable) x), (1, .data (Ty.sl TTable) y), (5, .data TInt i0)], []⟩ : St)) (0 : Int) (x.length : Int) (F.laws_eqTableS_l0 x y) (fun v0 : Unit => True) (outD (fun v0 : Unit => True → K (.data Ty.bool true) []) (fun q0 : Unit => K (.data Ty.bool false) [])) m_ (⟨[(0, .data (Ty.sl TTable) x), (1, .data (Ty.sl TTable) y), (5, .data TInt (0 : Int))], []⟩ : St)))) := by kernel_rfl
theorem lvc15_0 (x : (List (TTable).D)) (y : (List (TTable).D))  (i0 : Int) (v0 : Unit) (m : Nat) (K : X → St → Prop) : awp C15 (L15 x y) ann15 (loopAt (bodyOf f15) 0) (⟨[(0, .data (Ty.sl TTable) x), (1, .data (Ty.sl TTable) y), (5, .data TInt i0)], []⟩ : St) (thenW (fun s' => ∃ m', m' < m ∧ (L15 x y) 0 m' s' K) (exitN 0 (ann15 (behind 0)) K)) =
  (cond (decide (i0 < (x.length : Int))) ((0 ≤ i0) ∧ (i0 < (x.length : Int)) ∧ (0 ≤ i0) ∧ (i0 < (y.length : Int)) ∧ (Sm TTable (nth (t := TTable) x i0)) ∧ (Sm TTable (nth (t := TTable) y i0)) ∧ ((nth (t := TTable) x i0) = (nth (t := TTable) y i0)) ∧ cond (!(true)) (K .ret (⟨[(4, .data Ty.bool false)], []⟩ : St)) ((∃ m_, m_ < m ∧ (L15 x y) 0 m_ (⟨[(0, .data (Ty.sl TTable) x), (1, .data (Ty.sl TTable) y), (5, .data TInt (wrap64 (i0 + (1 : Int))))], []⟩ : St) K))) (K (.exit 0) (⟨[], []⟩ : St))) := by kernel_rfl
theorem con15_ok : ConOk P 15 c15 := by
  refine con_okR (fn := f15) (code := bodyOf f15) (tab_ok tab_check cmp_check) consOk15 mixed func15 rfl rfl fun args hp K h0 => ?_
  obtain ⟨a0, a1, rfl, rfl, h1⟩ := args2_elim h0
  obtain ⟨x, rfl, h2⟩ := withD_elim h1
  obtain ⟨y, rfl, h3⟩ := withD_elim h2
  obtain ⟨h_x, h_y, p0, hK⟩ := h3
  have h : ok (F.laws_eqTableS x y) (fun r => K (.data Ty.bool r) []) := ok_of_eq (F.laws_eqTableS_eq x y h_x h_y p0) hK
  refine ⟨⟨show (2 : Nat) ≤ 27 by decide, show (2 : Nat) ≤ 1000000 by decide⟩, ann15, (L15 x y), (.dat Ty.bool), (loopsN1 (i0 := 0) (by kernel_rfl) ?_), ?_⟩
  · clear h
    intro m_ s_ K_ h
    obtain ⟨hc0, i0, v0, rfl, hl0, rfl, hv0, h⟩ := (show LP15_0 x y m_ s_ K_ from h)
    rw [lvc15_0 x y i0 v0 _ K_]
    exact (loopI_step h (fun ht0 h => ⟨hl0, ⟨ht0, ⟨hl0, ⟨(ok_guard h).1, have h := (ok_guard h).2; ⟨(sm_nth h_x i0), ⟨(sm_nth h_y i0), ⟨(ok_guard h).1, have h := (ok_guard h).2; (ok_cond h (fun b_16 h => (have h := ok_ret h; h)) (fun b_16 h => (loopI_next (fun m hm => (show LP15_0 x y m _ _ from ⟨hc0, hm⟩)) () rfl hl0 low0 ht0 (sm_len h_x) trivial (have h := ok_ret h; h))))⟩⟩⟩⟩⟩⟩⟩) (fun h => (h trivial)))
  · rw [vc15 x y K]
    exact (ok_cond h (fun b_1 h => (have h := ok_ret h; h)) (fun b_1 h => (loopI_start (fun m hm => ⟨trivial, hm⟩) (0 : Int) () rfl (Int.natCast_nonneg 0) trivial (ok_then h (fun v0 h hv0 => (have h := ok_ret h; h)) (fun q0 h => (have h := ok_ret h; h))))))

/-! 94: loop.example/tablehouse/laws.markText -/
def c94 : Con := ⟨[.dat TInt], fun args hp K => args1 (fun a0 => withD TInt a0 fun k => (k ≤ M.big) ∧ (∀ r : ByteArray, r = (M.markText k) → K (.data Ty.str r) [])) args hp, .plain⟩
def cons94 : Cons := []
def inl94 : List (Nat × Inl) := []
@[reducible] def C94 : Ctx := ⟨tab, fun t => memN t cmps, cons94, 20, inl94, 0, false⟩
theorem consOk94 : ConsOk P C94 := by
  exact consOk_nil
def ann94 : Nat → List Dir
  | 0 => [.keep [0]]
  | 1 => [.keep [0, 5]]
  | 2 => [.keep [2]]
  | 3 => [.keep [0, 3]]
  | 4 => [.keep [0, 3, 7]]
  | 5 => [.keep [0, 3]]
  | 6 => [.keep [0, 3]]
  | 7 => [.keep [2]]
  | 100000 => [.keep [3]]
  | _ => []
@[reducible] def LP94_0 (k : Int) (m : Nat) (st_ : St) (K : X → St → Prop) : Prop := (True) ∧ LoopW (fun v0 : Int × ByteArray => (⟨[(0, .data TInt v0.1), (3, .data Ty.str v0.2)], []⟩ : St)) (F.laws_markText_l0 k) (fun v0 : Int × ByteArray => True) ((fun e0 : ByteArray => True → K (.exit 0) (⟨[(3, .data Ty.str e0)], []⟩ : St))) m st_
def L94 (k : Int) : Loops := fun id m st_ K => match id with
  | 0 => LP94_0 k m st_ K
  | _ => False
theorem vc94 (k : Int) (K : AV → Hp → Prop) : awp C94 (L94 k) ann94 (bodyOf f94) ⟨argEnv 0 [.data TInt k], []⟩ (outK tab false f94.results.toList (hasBox []) (resK (.dat Ty.str) K)) =
  (cond (decide (k ≤ (0 : Int))) (K (.data Ty.str (⟨#[109, 48]⟩ : ByteArray)) []) ((∃ m_, (True) ∧ LoopW (fun v0 : Int × ByteArray => (⟨[(0, .data TInt v0.1), (3, .data Ty.str v0.2)], []⟩ : St)) (F.laws_markText_l0 k) (fun v0 : Int × ByteArray => True) ((fun e0 : ByteArray => True → ((⟨#[109]⟩ : ByteArray).size + e0.size ≤ 9223372036854775807) ∧ K (.data Ty.str ((⟨#[109]⟩ : ByteArray) ++ e0)) [])) m_ (⟨[(0, .data TInt k), (3, .data Ty.str (⟨#[]⟩ : ByteArray))], []⟩ : St)))) := by kernel_rfl
theorem lvc94_0 (k : Int)  (v0 : Int × ByteArray) (m : Nat) (K : X → St → Prop) : awp C94 (L94 k) ann94 (loopAt (bodyOf f94) 0) (⟨[(0, .data TInt v0.1), (3, .data Ty.str v0.2)], []⟩ : St) (thenW (fun s' => ∃ m', m' < m ∧ (L94 k) 0 m' s' K) (exitN 0 (ann94 (behind 0)) K)) =
  (cond (decide ((0 : Int) < v0.1)) (((10 : Int) ≠ 0) ∧ ((strOf [((wrap64 ((48 : Int) + (v0.1.tmod (10 : Int)))) % 256)]).size + v0.2.size ≤ 9223372036854775807) ∧ ((10 : Int) ≠ 0) ∧ (∃ m_, m_ < m ∧ (L94 k) 0 m_ (⟨[(0, .data TInt (wrap64 (v0.1.tdiv (10 : Int)))), (3, .data Ty.str ((strOf [((wrap64 ((48 : Int) + (v0.1.tmod (10 : Int)))) % 256)]) ++ v0.2))], []⟩ : St) K)) (K (.exit 0) (⟨[(3, .data Ty.str v0.2)], []⟩ : St))) := by kernel_rfl
theorem con94_ok : ConOk P 94 c94 := by
  refine con_okR (fn := f94) (code := bodyOf f94) (tab_ok tab_check cmp_check) consOk94 mixed func94 rfl rfl fun args hp K h0 => ?_
  obtain ⟨a0, rfl, rfl, h1⟩ := args1_elim h0
  obtain ⟨k, rfl, h2⟩ := withD_elim h1
  obtain ⟨p0, hK⟩ := h2
  have h : ok (F.laws_markText k) (fun r => K (.data Ty.str r) []) := ok_of_eq (F.laws_markText_eq k p0) (hK _ rfl)
  refine ⟨⟨show (1 : Nat) ≤ 20 by decide, show (1 : Nat) ≤ 1000000 by decide⟩, ann94, (L94 k), (.dat Ty.str), (loopsN1 (i0 := 0) (by kernel_rfl) ?_), ?_⟩
  · clear h
    intro m_ s_ K_ h
    obtain ⟨hc0, v0, rfl, hv0, h⟩ := (show LP94_0 k m_ s_ K_ from h)
    rw [lvc94_0 k v0 _ K_]
    exact (loopW_step h (fun m1 hm0 h => (ok_cond h (fun b_6 h => ⟨(by decide), ⟨(ok_guard h).1, have h := (ok_guard h).2; ⟨(by decide), (loopW_next (fun m hm => (show LP94_0 k m _ _ from ⟨hc0, hm⟩)) hm0 (wrap64 (v0.1.tdiv (10 : Int)), ((strOf [((wrap64 ((48 : Int) + (v0.1.tmod (10 : Int)))) % 256)]) ++ v0.2)) rfl trivial (have h := ok_ret h; h))⟩⟩⟩) (fun b_6 h => ((have h := ok_ret h; h) trivial)))))
  · rw [vc94 k K]
    exact (ok_cond h (fun b_1 h => (have h := ok_ret h; h)) (fun b_1 h => (loopW_start (fun m hm => ⟨trivial, hm⟩) (k, (⟨#[]⟩ : ByteArray)) rfl trivial (ok_bind h (fun e0 h hv0 => ⟨(ok_guard h).1, have h := (ok_guard h).2; (have h := ok_ret h; h)⟩)))))

/-! 76: loop.example/tablehouse/laws.markValueS -/
def c76 : Con := ⟨[.dat TInt], fun args hp K => hpN 1000000 false TValue (fun x => args2 (fun a0 a1 => withC 1000000 (x.length : Int) a0 (withD TInt a1 fun k => (Ln (Ty.sl TValue) x) ∧ (0 ≤ k) ∧ (k + (M.count (Ty.sl TValue) x : Int) ≤ M.big) ∧ (∀ r : (List (TValue).D) × Int, r = ((M.mark (Ty.sl TValue) x k, k + (M.count (Ty.sl TValue) x : Int))) → K (.data TInt r.2) [(1000000, .arr false TValue r.1)]))) args []) hp, .io⟩
def cons76 : Cons := [(94, c94)]
def inl76 : List (Nat × Inl) := []
@[reducible] def C76 : Ctx := ⟨tab, fun t => memN t cmps, cons76, 35, inl76, 0, false⟩
theorem consOk76 : ConsOk P C76 := by
  refine consOk_cons (enter_ok (fn := f94) func94 (by kernel_rfl) rfl) con94_ok ?_
  exact consOk_nil
def ann76 : Nat → List Dir
  | 0 => [.keep [0, 1]]
  | 1 => [.keep [0, 1, 5]]
  | 2 => [.keep [0, 1, 5, 9]]
  | 3 => [.keep [0, 1, 5]]
  | 4 => [.keep [0, 1, 5]]
  | 5 => [.keep [0, 1, 5]]
  | 6 => [.keep [0, 1, 5]]
  | 7 => [.keep [0, 1, 5]]
  | 8 => [.keep [0, 1, 5]]
  | 9 => [.keep [0, 1, 5]]
  | 10 => [.keep [4]]
  | 100000 => [.keep [1]]
  | _ => []
@[reducible] def LP76_0 (x : (List (TValue).D)) (k : Int) (m : Nat) (st_ : St) (K : X → St → Prop) : Prop := (True) ∧ LoopI (fun (i0 : Int) (v0 : Int × (List (TValue).D)) => (⟨[(0, .clp 1000000 (x.length : Int)), (1, .data TInt v0.1), (5, .data TInt i0)], [(1000000, .arr false TValue v0.2)]⟩ : St)) (0 : Int) (x.length : Int) (F.laws_markValueS_l0 x k) (fun v0 : Int × (List (TValue).D) => True) (outD (fun v0 : Int × (List (TValue).D) => True → K (.exit 0) (⟨[(1, .data TInt v0.1)], [(1000000, .arr false TValue v0.2)]⟩ : St)) (fun _ => False)) m st_
def L76 (x : (List (TValue).D)) (k : Int) : Loops := fun id m st_ K => match id with
  | 0 => LP76_0 x k m st_ K
  | _ => False
theorem vc76 (x : (List (TValue).D)) (k : Int) (K : AV → Hp → Prop) : awp C76 (L76 x k) ann76 (bodyOf f76) ⟨argEnv 0 [.clp 1000000 (x.length : Int), .data TInt k], [(1000000, .arr false TValue x)]⟩ (outK tab false f76.results.toList (hasBox [(1000000, .arr false TValue x)]) (resK .raw K)) =
  ((∃ m_, (True) ∧ LoopI (fun (i0 : Int) (v0 : Int × (List (TValue).D)) => (⟨[(0, .clp 1000000 (x.length : Int)), (1, .data TInt v0.1), (5, .data TInt i0)], [(1000000, .arr false TValue v0.2)]⟩ : St)) (0 : Int) (x.length : Int) (F.laws_markValueS_l0 x k) (fun v0 : Int × (List (TValue).D) => True) (outD (fun v0 : Int × (List (TValue).D) => True → K (.data TInt v0.1) [(1000000, .arr false TValue v0.2)]) (fun _ => False)) m_ (⟨[(0, .clp 1000000 (x.length : Int)), (1, .data TInt k), (5, .data TInt (0 : Int))], [(1000000, .arr false TValue x)]⟩ : St))) := by kernel_rfl
theorem lvc76_0 (x : (List (TValue).D)) (k : Int)  (i0 : Int) (v0 : Int × (List (TValue).D)) (m : Nat) (K : X → St → Prop) : awp C76 (L76 x k) ann76 (loopAt (bodyOf f76) 0) (⟨[(0, .clp 1000000 (x.length : Int)), (1, .data TInt v0.1), (5, .data TInt i0)], [(1000000, .arr false TValue v0.2)]⟩ : St) (thenW (fun s' => ∃ m', m' < m ∧ (L76 x k) 0 m' s' K) (exitN 0 (ann76 (behind 0)) K)) =
  (cond (decide (i0 < (x.length : Int))) ((0 ≤ i0) ∧ (i0 < (x.length : Int)) ∧ (0 ≤ i0) ∧ (i0 < (x.length : Int)) ∧ (let y_6_5 : (List (TValue).D) := ((v0.2.set i0.toNat (v0.1, (nth (t := TValue) v0.2 i0).2)).set i0.toNat ((nth (t := TValue) (v0.2.set i0.toNat (v0.1, (nth (t := TValue) v0.2 i0).2)) i0).1, (wrap64 (v0.1 + (1 : Int)), ((nth (t := TValue) (v0.2.set i0.toNat (v0.1, (nth (t := TValue) v0.2 i0).2)) i0).2).2))); ((wrap64 (wrap64 (v0.1 + (1 : Int)) + (1 : Int))) ≤ M.big) ∧ (∀ r_8_3 : ByteArray, r_8_3 = (M.markText (wrap64 (wrap64 (v0.1 + (1 : Int)) + (1 : Int)))) → (0 ≤ i0) ∧ (i0 < (x.length : Int)) ∧ (let y_8_6 : (List (TValue).D) := (y_6_5.set i0.toNat ((nth (t := TValue) y_6_5 i0).1, (((nth (t := TValue) y_6_5 i0).2).1, (r_8_3, ())))); (∃ m_, m_ < m ∧ (L76 x k) 0 m_ (⟨[(0, .clp 1000000 (x.length : Int)), (1, .data TInt (wrap64 (wrap64 (wrap64 (v0.1 + (1 : Int)) + (1 : Int)) + (1 : Int)))), (5, .data TInt (wrap64 (i0 + (1 : Int))))], [(1000000, .arr false TValue y_8_6)]⟩ : St) K))))) (K (.exit 0) (⟨[(1, .data TInt v0.1)], [(1000000, .arr false TValue v0.2)]⟩ : St))) := by kernel_rfl
theorem con76_ok : ConOk P 76 c76 := by
  refine con_okR (fn := f76) (code := bodyOf f76) (tab_ok tab_check cmp_check) consOk76 mixed func76 rfl rfl fun args hp K h0 => ?_
  unfold c76 at h0
  dsimp only at h0
  obtain ⟨x, rfl, h00⟩ := hpN_elim (n := 1000000) (d := false) (t := TValue) h0
  obtain ⟨a0, a1, rfl, _, h1⟩ := args2_elim h00
  obtain ⟨rfl, h2⟩ := withC_elim h1
  obtain ⟨k, rfl, h3⟩ := withD_elim h2
  obtain ⟨h_x, p0, p1, hK⟩ := h3
  have h : ok (F.laws_markValueS x k) (fun r => K (.data TInt r.2) [(1000000, .arr false TValue r.1)]) := ok_of_eq (F.laws_markValueS_eq x k h_x p0 p1) (hK _ rfl)
  refine ⟨⟨show (2 : Nat) ≤ 35 by decide, show (2 : Nat) ≤ 1000000 by decide⟩, ann76, (L76 x k), .raw, (loopsN1 (i0 := 0) (by kernel_rfl) ?_), ?_⟩
  · clear h
    intro m_ s_ K_ h
    obtain ⟨hc0, i0, v0, rfl, hl0, rfl, hv0, h⟩ := (show LP76_0 x k m_ s_ K_ from h)
    rw [lvc76_0 x k i0 v0 _ K_]
    exact (loopI_step h (fun ht0 h => ⟨hl0, ⟨ht0, ⟨hl0, ⟨ht0, (let y_6_5 : (List (TValue).D) := ((v0.2.set i0.toNat (v0.1, (nth (t := TValue) v0.2 i0).2)).set i0.toNat ((nth (t := TValue) (v0.2.set i0.toNat (v0.1, (nth (t := TValue) v0.2 i0).2)) i0).1, (wrap64 (v0.1 + (1 : Int)), ((nth (t := TValue) (v0.2.set i0.toNat (v0.1, (nth (t := TValue) v0.2 i0).2)) i0).2).2))); have h := ok_let h y_6_5 rfl; ⟨(ok_guard h).1, have h := (ok_guard h).2; (fun r_8_3 e_r_8_3 => have h := ok_let h r_8_3 e_r_8_3; ⟨hl0, ⟨ht0, (let y_8_6 : (List (TValue).D) := (y_6_5.set i0.toNat ((nth (t := TValue) y_6_5 i0).1, (((nth (t := TValue) y_6_5 i0).2).1, (r_8_3, ())))); have h := ok_let h y_8_6 rfl; (loopI_next (fun m hm => (show LP76_0 x k m _ _ from ⟨hc0, hm⟩)) (wrap64 (wrap64 (wrap64 (v0.1 + (1 : Int)) + (1 : Int)) + (1 : Int)), y_8_6) rfl hl0 low0 ht0 (sm_len h_x) trivial (have h := ok_ret h; h)))⟩⟩)⟩)⟩⟩⟩⟩) (fun h => (h trivial)))
  · rw [vc76 x k K]
    exact (loopI_start (fun m hm => ⟨trivial, hm⟩) (0 : Int) (k, x) rfl (Int.natCast_nonneg 0) trivial (ok_then h (fun v0 h hv0 => (have h := ok_ret h; h)) (fun _ h => h.elim)))

/-! 33: loop.example/tablehouse/laws.markValueSS -/
def c33 : Con := ⟨[.dat TInt], fun args hp K => hpN 1000000 true (Ty.sl TValue) (fun x => args2 (fun a0 a1 => withC 1000000 (x.length : Int) a0 (withD TInt a1 fun k => (Ln (Ty.sl (Ty.sl TValue)) x) ∧ (0 ≤ k) ∧ (k + (M.count (Ty.sl (Ty.sl TValue)) x : Int) ≤ M.big) ∧ (∀ r : (List (List (TValue).D)) × Int, r = ((M.mark (Ty.sl (Ty.sl TValue)) x k, k + (M.count (Ty.sl (Ty.sl TValue)) x : Int))) → K (.data TInt r.2) [(1000000, .arr true (Ty.sl TValue) r.1)]))) args []) hp, .io⟩
def cons33 : Cons := [(76, c76)]
def inl33 : List (Nat × Inl) := []
@[reducible] def C33 : Ctx := ⟨tab, fun t => memN t cmps, cons33, 19, inl33, 0, false⟩
theorem consOk33 : ConsOk P C33 := by
  refine consOk_cons (enter_ok (fn := f76) func76 (by kernel_rfl) rfl) con76_ok ?_
  exact consOk_nil
def ann33 : Nat → List Dir
  | 0 => [.keep [0, 1]]
  | 1 => [.keep [0, 1, 5]]
  | 2 => [.keep [0, 1, 5, 9]]
  | 3 => [.keep [0, 1, 5]]
  | 4 => [.keep [0, 1, 5]]
  | 5 => [.keep [4]]
  | 100000 => [.keep [1]]
  | _ => []
@[reducible] def LP33_0 (x : (List (List (TValue).D))) (k : Int) (m : Nat) (st_ : St) (K : X → St → Prop) : Prop := (True) ∧ LoopI (fun (i0 : Int) (v0 : Int × (List (List (TValue).D))) => (⟨[(0, .clp 1000000 (x.length : Int)), (1, .data TInt v0.1), (5, .data TInt i0)], [(1000000, .arr true (Ty.sl TValue) v0.2)]⟩ : St)) (0 : Int) (x.length : Int) (F.laws_markValueSS_l0 x k) (fun v0 : Int × (List (List (TValue).D)) => True) (outD (fun v0 : Int × (List (List (TValue).D)) => True → K (.exit 0) (⟨[(1, .data TInt v0.1)], [(1000000, .arr true (Ty.sl TValue) v0.2)]⟩ : St)) (fun _ => False)) m st_
def L33 (x : (List (List (TValue).D))) (k : Int) : Loops := fun id m st_ K => match id with
  | 0 => LP33_0 x k m st_ K
  | _ => False
theorem vc33 (x : (List (List (TValue).D))) (k : Int) (K : AV → Hp → Prop) : awp C33 (L33 x k) ann33 (bodyOf f33) ⟨argEnv 0 [.clp 1000000 (x.length : Int), .data TInt k], [(1000000, .arr true (Ty.sl TValue) x)]⟩ (outK tab false f33.results.toList (hasBox [(1000000, .arr true (Ty.sl TValue) x)]) (resK .raw K)) =
  ((∃ m_, (True) ∧ LoopI (fun (i0 : Int) (v0 : Int × (List (List (TValue).D))) => (⟨[(0, .clp 1000000 (x.length : Int)), (1, .data TInt v0.1), (5, .data TInt i0)], [(1000000, .arr true (Ty.sl TValue) v0.2)]⟩ : St)) (0 : Int) (x.length : Int) (F.laws_markValueSS_l0 x k) (fun v0 : Int × (List (List (TValue).D)) => True) (outD (fun v0 : Int × (List (List (TValue).D)) => True → K (.data TInt v0.1) [(1000000, .arr true (Ty.sl TValue) v0.2)]) (fun _ => False)) m_ (⟨[(0, .clp 1000000 (x.length : Int)), (1, .data TInt k), (5, .data TInt (0 : Int))], [(1000000, .arr true (Ty.sl TValue) x)]⟩ : St))) := by kernel_rfl
theorem lvc33_0 (x : (List (List (TValue).D))) (k : Int)  (i0 : Int) (v0 : Int × (List (List (TValue).D))) (m : Nat) (K : X → St → Prop) : awp C33 (L33 x k) ann33 (loopAt (bodyOf f33) 0) (⟨[(0, .clp 1000000 (x.length : Int)), (1, .data TInt v0.1), (5, .data TInt i0)], [(1000000, .arr true (Ty.sl TValue) v0.2)]⟩ : St) (thenW (fun s' => ∃ m', m' < m ∧ (L33 x k) 0 m' s' K) (exitN 0 (ann33 (behind 0)) K)) =
  (cond (decide (i0 < (x.length : Int))) ((0 ≤ i0) ∧ (i0 < (x.length : Int)) ∧ (((nth (t := (Ty.sl TValue)) v0.2 i0).length : Int) = ((nth (t := (Ty.sl TValue)) v0.2 i0).length : Int)) ∧ (Ln (Ty.sl TValue) (nth (t := (Ty.sl TValue)) v0.2 i0)) ∧ (0 ≤ v0.1) ∧ (v0.1 + (M.count (Ty.sl TValue) (nth (t := (Ty.sl TValue)) v0.2 i0) : Int) ≤ M.big) ∧ (∀ r_4_5 : (List (TValue).D) × Int, r_4_5 = ((M.mark (Ty.sl TValue) (nth (t := (Ty.sl TValue)) v0.2 i0) v0.1, v0.1 + (M.count (Ty.sl TValue) (nth (t := (Ty.sl TValue)) v0.2 i0) : Int))) → (r_4_5.1.length = (nth (t := (Ty.sl TValue)) v0.2 i0).length) ∧ (∃ m_, m_ < m ∧ (L33 x k) 0 m_ (⟨[(0, .clp 1000000 (x.length : Int)), (1, .data TInt r_4_5.2), (5, .data TInt (wrap64 (i0 + (1 : Int))))], [(1000000, .arr true (Ty.sl TValue) (v0.2.set i0.toNat r_4_5.1))]⟩ : St) K))) (K (.exit 0) (⟨[(1, .data TInt v0.1)], [(1000000, .arr true (Ty.sl TValue) v0.2)]⟩ : St))) := by kernel_rfl
theorem con33_ok : ConOk P 33 c33 := by
  refine con_okR (fn := f33) (code := bodyOf f33) (tab_ok tab_check cmp_check) consOk33 mixed func33 rfl rfl fun args hp K h0 => ?_
  unfold c33 at h0
  dsimp only at h0
  obtain ⟨x, rfl, h00⟩ := hpN_elim (n := 1000000) (d := true) (t := (Ty.sl TValue)) h0
  obtain ⟨a0, a1, rfl, _, h1⟩ := args2_elim h00
  obtain ⟨rfl, h2⟩ := withC_elim h1
  obtain ⟨k, rfl, h3⟩ := withD_elim h2
  obtain ⟨h_x, p0, p1, hK⟩ := h3
  have h : ok (F.laws_markValueSS x k) (fun r => K (.data TInt r.2) [(1000000, .arr true (Ty.sl TValue) r.1)]) := ok_of_eq (F.laws_markValueSS_eq x k h_x p0 p1) (hK _ rfl)
  refine ⟨⟨show (2 : Nat) ≤ 19 by decide, show (2 : Nat) ≤ 1000000 by decide⟩, ann33, (L33 x k), .raw, (loopsN1 (i0 := 0) (by kernel_rfl) ?_), ?_⟩
  · clear h
    intro m_ s_ K_ h
    obtain ⟨hc0, i0, v0, rfl, hl0, rfl, hv0, h⟩ := (show LP33_0 x k m_ s_ K_ from h)
    rw [lvc33_0 x k i0 v0 _ K_]
    exact (loopI_step h (fun ht0 h => ⟨hl0, ⟨ht0, ⟨rfl, ⟨(ok_guard h).1, have h := (ok_guard h).2; ⟨(ok_guard h).1, have h := (ok_guard h).2; ⟨(ok_guard h).1, have h := (ok_guard h).2; (fun r_4_5 e_r_4_5 => have h := ok_let h r_4_5 e_r_4_5; ⟨(by rw [e_r_4_5]; exact (M.mark_len TValue _ _)), (loopI_next (fun m hm => (show LP33_0 x k m _ _ from ⟨hc0, hm⟩)) (r_4_5.2, (v0.2.set i0.toNat r_4_5.1)) rfl hl0 low0 ht0 (sm_len h_x) trivial (have h := ok_ret h; h))⟩)⟩⟩⟩⟩⟩⟩) (fun h => (h trivial)))
  · rw [vc33 x k K]
    exact (loopI_start (fun m hm => ⟨trivial, hm⟩) (0 : Int) (k, x) rfl (Int.natCast_nonneg 0) trivial (ok_then h (fun v0 h hv0 => (have h := ok_ret h; h)) (fun _ h => h.elim)))

/-! 45: loop.example/tablehouse/laws.markColumnS -/
def c45 : Con := ⟨[.dat TInt], fun args hp K => hpN 1000000 false TColumn (fun x => args2 (fun a0 a1 => withC 1000000 (x.length : Int) a0 (withD TInt a1 fun k => (Ln (Ty.sl TColumn) x) ∧ (0 ≤ k) ∧ (k + (M.count (Ty.sl TColumn) x : Int) ≤ M.big) ∧ (∀ r : (List (TColumn).D) × Int, r = ((M.mark (Ty.sl TColumn) x k, k + (M.count (Ty.sl TColumn) x : Int))) → K (.data TInt r.2) [(1000000, .arr false TColumn r.1)]))) args []) hp, .io⟩
def cons45 : Cons := []
def inl45 : List (Nat × Inl) := []
@[reducible] def C45 : Ctx := ⟨tab, fun t => memN t cmps, cons45, 29, inl45, 0, false⟩
theorem consOk45 : ConsOk P C45 := by
  exact consOk_nil
def ann45 : Nat → List Dir
  | 0 => [.keep [0, 1]]
  | 1 => [.keep [0, 1, 5]]
  | 2 => [.keep [0, 1, 5, 9]]
  | 3 => [.keep [0, 1, 5]]
  | 4 => [.keep [0, 1, 5]]
  | 5 => [.keep [0, 1, 5]]
  | 6 => [.keep [0, 1, 5]]
  | 7 => [.keep [0, 1, 5]]
  | 8 => [.keep [4]]
  | 100000 => [.keep [1]]
  | _ => []
@[reducible] def LP45_0 (x : (List (TColumn).D)) (k : Int) (m : Nat) (st_ : St) (K : X → St → Prop) : Prop := (True) ∧ LoopI (fun (i0 : Int) (v0 : Int × (List (TColumn).D)) => (⟨[(0, .clp 1000000 (x.length : Int)), (1, .data TInt v0.1), (5, .data TInt i0)], [(1000000, .arr false TColumn v0.2)]⟩ : St)) (0 : Int) (x.length : Int) (F.laws_markColumnS_l0 x k) (fun v0 : Int × (List (TColumn).D) => True) (outD (fun v0 : Int × (List (TColumn).D) => True → K (.exit 0) (⟨[(1, .data TInt v0.1)], [(1000000, .arr false TColumn v0.2)]⟩ : St)) (fun _ => False)) m st_
def L45 (x : (List (TColumn).D)) (k : Int) : Loops := fun id m st_ K => match id with
  | 0 => LP45_0 x k m st_ K
  | _ => False
theorem vc45 (x : (List (TColumn).D)) (k : Int) (K : AV → Hp → Prop) : awp C45 (L45 x k) ann45 (bodyOf f45) ⟨argEnv 0 [.clp 1000000 (x.length : Int), .data TInt k], [(1000000, .arr false TColumn x)]⟩ (outK tab false f45.results.toList (hasBox [(1000000, .arr false TColumn x)]) (resK .raw K)) =
  ((∃ m_, (True) ∧ LoopI (fun (i0 : Int) (v0 : Int × (List (TColumn).D)) => (⟨[(0, .clp 1000000 (x.length : Int)), (1, .data TInt v0.1), (5, .data TInt i0)], [(1000000, .arr false TColumn v0.2)]⟩ : St)) (0 : Int) (x.length : Int) (F.laws_markColumnS_l0 x k) (fun v0 : Int × (List (TColumn).D) => True) (outD (fun v0 : Int × (List (TColumn).D) => True → K (.data TInt v0.1) [(1000000, .arr false TColumn v0.2)]) (fun _ => False)) m_ (⟨[(0, .clp 1000000 (x.length : Int)), (1, .data TInt k), (5, .data TInt (0 : Int))], [(1000000, .arr false TColumn x)]⟩ : St))) := by kernel_rfl
theorem lvc45_0 (x : (List (TColumn).D)) (k : Int)  (i0 : Int) (v0 : Int × (List (TColumn).D)) (m : Nat) (K : X → St → Prop) : awp C45 (L45 x k) ann45 (loopAt (bodyOf f45) 0) (⟨[(0, .clp 1000000 (x.length : Int)), (1, .data TInt v0.1), (5, .data TInt i0)], [(1000000, .arr false TColumn v0.2)]⟩ : St) (thenW (fun s' => ∃ m', m' < m ∧ (L45 x k) 0 m' s' K) (exitN 0 (ann45 (behind 0)) K)) =
  (cond (decide (i0 < (x.length : Int))) ((0 ≤ i0) ∧ (i0 < (x.length : Int)) ∧ ((3 : Int) ≠ 0) ∧ (0 ≤ i0) ∧ (i0 < (x.length : Int)) ∧ (let y_6_7 : (List (TColumn).D) := ((v0.2.set i0.toNat (v0.1, (nth (t := TColumn) v0.2 i0).2)).set i0.toNat ((nth (t := TColumn) (v0.2.set i0.toNat (v0.1, (nth (t := TColumn) v0.2 i0).2)) i0).1, ((decide (((wrap64 (v0.1 + (1 : Int))).tmod (3 : Int)) = (0 : Int))), ()))); (∃ m_, m_ < m ∧ (L45 x k) 0 m_ (⟨[(0, .clp 1000000 (x.length : Int)), (1, .data TInt (wrap64 (wrap64 (v0.1 + (1 : Int)) + (1 : Int)))), (5, .data TInt (wrap64 (i0 + (1 : Int))))], [(1000000, .arr false TColumn y_6_7)]⟩ : St) K))) (K (.exit 0) (⟨[(1, .data TInt v0.1)], [(1000000, .arr false TColumn v0.2)]⟩ : St))) := by kernel_rfl
theorem con45_ok : ConOk P 45 c45 := by
  refine con_okR (fn := f45) (code := bodyOf f45) (tab_ok tab_check cmp_check) consOk45 mixed func45 rfl rfl fun args hp K h0 => ?_
  unfold c45 at h0
  dsimp only at h0
  obtain ⟨x, rfl, h00⟩ := hpN_elim (n := 1000000) (d := false) (t := TColumn) h0
  obtain ⟨a0, a1, rfl, _, h1⟩ := args2_elim h00
  obtain ⟨rfl, h2⟩ := withC_elim h1
  obtain ⟨k, rfl, h3⟩ := withD_elim h2
  obtain ⟨h_x, p0, p1, hK⟩ := h3
  have h : ok (F.laws_markColumnS x k) (fun r => K (.data TInt r.2) [(1000000, .arr false TColumn r.1)]) := ok_of_eq (F.laws_markColumnS_eq x k h_x p0 p1) (hK _ rfl)
  refine ⟨⟨show (2 : Nat) ≤ 29 by decide, show (2 : Nat) ≤ 1000000 by decide⟩, ann45, (L45 x k), .raw, (loopsN1 (i0 := 0) (by kernel_rfl) ?_), ?_⟩
  · clear h
    intro m_ s_ K_ h
    obtain ⟨hc0, i0, v0, rfl, hl0, rfl, hv0, h⟩ := (show LP45_0 x k m_ s_ K_ from h)
    rw [lvc45_0 x k i0 v0 _ K_]
    exact (loopI_step h (fun ht0 h => ⟨hl0, ⟨ht0, ⟨(by decide), ⟨hl0, ⟨ht0, (let y_6_7 : (List (TColumn).D) := ((v0.2.set i0.toNat (v0.1, (nth (t := TColumn) v0.2 i0).2)).set i0.toNat ((nth (t := TColumn) (v0.2.set i0.toNat (v0.1, (nth (t := TColumn) v0.2 i0).2)) i0).1, ((decide (((wrap64 (v0.1 + (1 : Int))).tmod (3 : Int)) = (0 : Int))), ()))); have h := ok_let h y_6_7 rfl; (loopI_next (fun m hm => (show LP45_0 x k m _ _ from ⟨hc0, hm⟩)) (wrap64 (wrap64 (v0.1 + (1 : Int)) + (1 : Int)), y_6_7) rfl hl0 low0 ht0 (sm_len h_x) trivial (have h := ok_ret h; h)))⟩⟩⟩⟩⟩) (fun h => (h trivial)))
  · rw [vc45 x k K]
    exact (loopI_start (fun m hm => ⟨trivial, hm⟩) (0 : Int) (k, x) rfl (Int.natCast_nonneg 0) trivial (ok_then h (fun v0 h hv0 => (have h := ok_ret h; h)) (fun _ h => h.elim)))

/-! 16: loop.example/tablehouse/laws.markTableS -/
def c16 : Con := ⟨[.dat TInt], fun args hp K => hpN 1000000 true TTable (fun x => args2 (fun a0 a1 => withC 1000000 (x.length : Int) a0 (withD TInt a1 fun k => (Ln (Ty.sl TTable) x) ∧ (0 ≤ k) ∧ (k + (M.count (Ty.sl TTable) x : Int) ≤ M.big) ∧ (∀ r : (List (TTable).D) × Int, r = ((M.mark (Ty.sl TTable) x k, k + (M.count (Ty.sl TTable) x : Int))) → K (.data TInt r.2) [(1000000, .arr true TTable r.1)]))) args []) hp, .io⟩
def cons16 : Cons := [(33, c33), (45, c45)]
def inl16 : List (Nat × Inl) := []
@[reducible] def C16 : Ctx := ⟨tab, fun t => memN t cmps, cons16, 27, inl16, 0, false⟩
theorem consOk16 : ConsOk P C16 := by
  refine consOk_cons (enter_ok (fn := f33) func33 (by kernel_rfl) rfl) con33_ok ?_
  refine consOk_cons (enter_ok (fn := f45) func45 (by kernel_rfl) rfl) con45_ok ?_
  exact consOk_nil
def ann16 : Nat → List Dir
  | 0 => [.keep [0, 1]]
  | 1 => [.keep [0, 1, 5]]
  | 2 => [.keep [0, 1, 5, 9]]
  | 3 => [.keep [0, 1, 5]]
  | 4 => [.keep [0, 1, 5]]
  | 5 => [.keep [0, 1, 5]]
  | 6 => [.keep [4]]
  | 100000 => [.keep [1]]
  | _ => []
@[reducible] def LP16_0 (x : (List (TTable).D)) (k : Int) (m : Nat) (st_ : St) (K : X → St → Prop) : Prop := (True) ∧ LoopI (fun (i0 : Int) (v0 : Int × (List (TTable).D)) => (⟨[(0, .clp 1000000 (x.length : Int)), (1, .data TInt v0.1), (5, .data TInt i0)], [(1000000, .arr true TTable v0.2)]⟩ : St)) (0 : Int) (x.length : Int) (F.laws_markTableS_l0 x k) (fun v0 : Int × (List (TTable).D) => True) (outD (fun v0 : Int × (List (TTable).D) => True → K (.exit 0) (⟨[(1, .data TInt v0.1)], [(1000000, .arr true TTable v0.2)]⟩ : St)) (fun _ => False)) m st_
def L16 (x : (List (TTable).D)) (k : Int) : Loops := fun id m st_ K => match id with
  | 0 => LP16_0 x k m st_ K
  | _ => False
theorem vc16 (x : (List (TTable).D)) (k : Int) (K : AV → Hp → Prop) : awp C16 (L16 x k) ann16 (bodyOf f16) ⟨argEnv 0 [.clp 1000000 (x.length : Int), .data TInt k], [(1000000, .arr true TTable x)]⟩ (outK tab false f16.results.toList (hasBox [(1000000, .arr true TTable x)]) (resK .raw K)) =
  ((∃ m_, (True) ∧ LoopI (fun (i0 : Int) (v0 : Int × (List (TTable).D)) => (⟨[(0, .clp 1000000 (x.length : Int)), (1, .data TInt v0.1), (5, .data TInt i0)], [(1000000, .arr true TTable v0.2)]⟩ : St)) (0 : Int) (x.length : Int) (F.laws_markTableS_l0 x k) (fun v0 : Int × (List (TTable).D) => True) (outD (fun v0 : Int × (List (TTable).D) => True → K (.data TInt v0.1) [(1000000, .arr true TTable v0.2)]) (fun _ => False)) m_ (⟨[(0, .clp 1000000 (x.length : Int)), (1, .data TInt k), (5, .data TInt (0 : Int))], [(1000000, .arr true TTable x)]⟩ : St))) := by kernel_rfl
theorem lvc16_0 (x : (List (TTable).D)) (k : Int)  (i0 : Int) (v0 : Int × (List (TTable).D)) (m : Nat) (K : X → St → Prop) : awp C16 (L16 x k) ann16 (loopAt (bodyOf f16) 0) (⟨[(0, .clp 1000000 (x.length : Int)), (1, .data TInt v0.1), (5, .data TInt i0)], [(1000000, .arr true TTable v0.2)]⟩ : St) (thenW (fun s' => ∃ m', m' < m ∧ (L16 x k) 0 m' s' K) (exitN 0 (ann16 (behind 0)) K)) =
  (cond (decide (i0 < (x.length : Int))) ((0 ≤ i0) ∧ (i0 < (x.length : Int)) ∧ ((((nth (t := TTable) v0.2 i0).1).length : Int) = (((nth (t := TTable) v0.2 i0).1).length : Int)) ∧ (Ln (Ty.sl TColumn) ((nth (t := TTable) v0.2 i0).1)) ∧ (0 ≤ v0.1) ∧ (v0.1 + (M.count (Ty.sl TColumn) ((nth (t := TTable) v0.2 i0).1) : Int) ≤ M.big) ∧ (∀ r_4_6 : (List (TColumn).D) × Int, r_4_6 = ((M.mark (Ty.sl TColumn) ((nth (t := TTable) v0.2 i0).1) v0.1, v0.1 + (M.count (Ty.sl TColumn) ((nth (t := TTable) v0.2 i0).1) : Int))) → (r_4_6.1.length = ((nth (t := TTable) v0.2 i0).1).length) ∧ (0 ≤ i0) ∧ (i0 < (x.length : Int)) ∧ (((((nth (t := TTable) (v0.2.set i0.toNat (r_4_6.1, (nth (t := TTable) v0.2 i0).2)) i0).2).1).length : Int) = ((((nth (t := TTable) (v0.2.set i0.toNat (r_4_6.1, (nth (t := TTable) v0.2 i0).2)) i0).2).1).length : Int)) ∧ (Ln (Ty.sl (Ty.sl TValue)) (((nth (t := TTable) (v0.2.set i0.toNat (r_4_6.1, (nth (t := TTable) v0.2 i0).2)) i0).2).1)) ∧ (0 ≤ r_4_6.2) ∧ (r_4_6.2 + (M.count (Ty.sl (Ty.sl TValue)) (((nth (t := TTable) (v0.2.set i0.toNat (r_4_6.1, (nth (t := TTable) v0.2 i0).2)) i0).2).1) : Int) ≤ M.big) ∧ (∀ r_5_6 : (List (List (TValue).D)) × Int, r_5_6 = ((M.mark (Ty.sl (Ty.sl TValue)) (((nth (t := TTable) (v0.2.set i0.toNat (r_4_6.1, (nth (t := TTable) v0.2 i0).2)) i0).2).1) r_4_6.2, r_4_6.2 + (M.count (Ty.sl (Ty.sl TValue)) (((nth (t := TTable) (v0.2.set i0.toNat (r_4_6.1, (nth (t := TTable) v0.2 i0).2)) i0).2).1) : Int))) → (r_5_6.1.length = (((nth (t := TTable) (v0.2.set i0.toNat (r_4_6.1, (nth (t := TTable) v0.2 i0).2)) i0).2).1).length) ∧ (∃ m_, m_ < m ∧ (L16 x k) 0 m_ (⟨[(0, .clp 1000000 (x.length : Int)), (1, .data TInt r_5_6.2), (5, .data TInt (wrap64 (i0 + (1 : Int))))], [(1000000, .arr true TTable ((v0.2.set i0.toNat (r_4_6.1, (nth (t := TTable) v0.2 i0).2)).set i0.toNat ((nth (t := TTable) (v0.2.set i0.toNat (r_4_6.1, (nth (t := TTable) v0.2 i0).2)) i0).1, (r_5_6.1, ()))))]⟩ : St) K)))) (K (.exit 0) (⟨[(1, .data TInt v0.1)], [(1000000, .arr true TTable v0.2)]⟩ : St))) := by kernel_rfl
theorem con16_ok : ConOk P 16 c16 := by
  refine con_okR (fn := f16) (code := bodyOf f16) (tab_ok tab_check cmp_check) consOk16 mixed func16 rfl rfl fun args hp K h0 => ?_
  unfold c16 at h0
  dsimp only at h0
  obtain ⟨x, rfl, h00⟩ := hpN_elim (n := 1000000) (d := true) (t := TTable) h0
  obtain ⟨a0, a1, rfl, _, h1⟩ := args2_elim h00
  obtain ⟨rfl, h2⟩ := withC_elim h1
  obtain ⟨k, rfl, h3⟩ := withD_elim h2
  obtain ⟨h_x, p0, p1, hK⟩ := h3
  have h : ok (F.laws_markTableS x k) (fun r => K (.data TInt r.2) [(1000000, .arr true TTable r.1)]) := ok_of_eq (F.laws_markTableS_eq x k h_x p0 p1) (hK _ rfl)
  refine ⟨⟨show (2 : Nat) ≤ 27 by decide, show (2 : Nat) ≤ 1000000 by decide⟩, ann16, (L16 x k), .raw, (loopsN1 (i0 := 0) (by kernel_rfl) ?_), ?_⟩
  · clear h
    intro m_ s_ K_ h
    obtain ⟨hc0, i0, v0, rfl, hl0, rfl, hv0, h⟩ := (show LP16_0 x k m_ s_ K_ from h)
    rw [lvc16_0 x k i0 v0 _ K_]
    exact (loopI_step h (fun ht0 h => ⟨hl0, ⟨ht0, ⟨rfl, ⟨(ok_guard h).1, have h := (ok_guard h).2; ⟨(ok_guard h).1, have h := (ok_guard h).2; ⟨(ok_guard h).1, have h := (ok_guard h).2; (fun r_4_6 e_r_4_6 => have h := ok_let h r_4_6 e_r_4_6; ⟨(by rw [e_r_4_6]; exact (M.mark_len TColumn _ _)), ⟨hl0, ⟨ht0, ⟨rfl, ⟨(ok_guard h).1, have h := (ok_guard h).2; ⟨(ok_guard h).1, have h := (ok_guard h).2; ⟨(ok_guard h).1, have h := (ok_guard h).2; (fun r_5_6 e_r_5_6 => have h := ok_let h r_5_6 e_r_5_6; ⟨(by rw [e_r_5_6]; exact (M.mark_len (Ty.sl TValue) _ _)), (loopI_next (fun m hm => (show LP16_0 x k m _ _ from ⟨hc0, hm⟩)) (r_5_6.2, ((v0.2.set i0.toNat (r_4_6.1, (nth (t := TTable) v0.2 i0).2)).set i0.toNat ((nth (t := TTable) (v0.2.set i0.toNat (r_4_6.1, (nth (t := TTable) v0.2 i0).2)) i0).1, (r_5_6.1, ())))) rfl hl0 low0 ht0 (sm_len h_x) trivial (have h := ok_ret h; h))⟩)⟩⟩⟩⟩⟩⟩⟩)⟩⟩⟩⟩⟩⟩) (fun h => (h trivial)))
  · rw [vc16 x k K]
    exact (loopI_start (fun m hm => ⟨trivial, hm⟩) (0 : Int) (k, x) rfl (Int.natCast_nonneg 0) trivial (ok_then h (fun v0 h hv0 => (have h := ok_ret h; h)) (fun _ h => h.elim)))

/-! 118: loop.example/tablehouse/laws.szPart -/
def c118 : Con := ⟨[.dat TPart, .dat TInt], fun args hp K => args2 (fun a0 a1 => withD TPart a0 fun x => withD TInt a1 fun left => (Ln TPart x) ∧ (0 ≤ left) ∧ (left ≤ 1048576) ∧ K (.data TInt (M.szPart x left)) []) args hp, .plain⟩
def cons118 : Cons := [(152, c152)]
def inl118 : List (Nat × Inl) := []
@[reducible] def C118 : Ctx := ⟨tab, fun t => memN t cmps, cons118, 12, inl118, 0, false⟩
theorem consOk118 : ConsOk P C118 := by
  refine consOk_cons (enter_ok (fn := f152) func152 (by kernel_rfl) rfl) con152_ok ?_
  exact consOk_nil
def ann118 : Nat → List Dir
  | 0 => [.fixRow 2 TPart, .keep [1, 2]]
  | 1 => [.keep [1]]
  | 2 => [.keep [1, 10]]
  | 3 => [.keep [4]]
  | 4 => [.keep [4]]
  | _ => []
def L118 (x : (TPart).D) (left : Int) : Loops := fun id m st_ K => match id with
  | _ => False
theorem vc118 (x : (TPart).D) (left : Int) (K : AV → Hp → Prop) : awp C118 (L118 x left) ann118 (bodyOf f118) ⟨argEnv 0 [.data TPart x, .data TInt left], []⟩ (outK tab false f118.results.toList (hasBox []) (resK (.dat TInt) K)) =
  ((Ln TValue x.2.2.1) ∧ (0 ≤ left) ∧ (left ≤ 1048576) ∧ cond (decide ((M.szValue x.2.2.1 left) < (0 : Int))) (K (.data TInt (-1 : Int)) []) (K (.data TInt (M.szValue x.2.2.1 left)) [])) := by kernel_rfl
theorem con118_ok : ConOk P 118 c118 := by
  refine con_okR (fn := f118) (code := bodyOf f118) (tab_ok tab_check cmp_check) consOk118 mixed func118 rfl rfl fun args hp K h0 => ?_
  obtain ⟨a0, a1, rfl, rfl, h1⟩ := args2_elim h0
  obtain ⟨x, rfl, h2⟩ := withD_elim h1
  obtain ⟨left, rfl, h3⟩ := withD_elim h2
  obtain ⟨h_x, p0, p1, hK⟩ := h3
  have h : ok (F.laws_szPart x left) (fun r => K (.data TInt r) []) := ok_of_eq (F.laws_szPart_eq x left h_x p0 p1) hK
  refine ⟨⟨show (2 : Nat) ≤ 12 by decide, show (2 : Nat) ≤ 1000000 by decide⟩, ann118, (L118 x left), (.dat TInt), (no_loops (by kernel_rfl)), ?_⟩
  · rw [vc118 x left K]
    exact ⟨h_x.2.2.1, ⟨p0, ⟨p1, (ok_cond h (fun b_1 h => (have h := ok_ret h; h)) (fun b_1 h => (have h := ok_ret h; h)))⟩⟩⟩

/-! 80: loop.example/tablehouse/laws.szPartS -/
def c80 : Con := ⟨[.dat (Ty.sl TPart), .dat TInt], fun args hp K => args2 (fun a0 a1 => withD (Ty.sl TPart) a0 fun x => withD TInt a1 fun left => (Ln (Ty.sl TPart) x) ∧ (0 ≤ left) ∧ (left ≤ 1048576) ∧ K (.data TInt (M.szS M.szPart x left)) []) args hp, .plain⟩
def cons80 : Cons := [(118, c118)]
def inl80 : List (Nat × Inl) := []
@[reducible] def C80 : Ctx := ⟨tab, fun t => memN t cmps, cons80, 27, inl80, 0, false⟩
theorem consOk80 : ConsOk P C80 := by
  refine consOk_cons (enter_ok (fn := f118) func118 (by kernel_rfl) rfl) con118_ok ?_
  exact consOk_nil
def ann80 : Nat → List Dir
  | 0 => [.keep [0, 1]]
  | 1 => [.keep [0, 1]]
  | 2 => [.keep [0, 1, 11]]
  | 3 => [.keep [4]]
  | 4 => [.keep [0, 1, 5]]
  | 5 => [.keep [0, 1, 5, 15]]
  | 6 => [.keep [0, 1, 5]]
  | 7 => [.keep [0, 1, 5]]
  | 8 => [.keep [0, 1, 5, 25]]
  | 9 => [.keep [4]]
  | 10 => [.keep [4]]
  | 100000 => [.keep [1]]
  | _ => []
@[reducible] def LP80_0 (x : (List (TPart).D)) (left : Int) (m : Nat) (st_ : St) (K : X → St → Prop) : Prop := (True) ∧ LoopE (t := TPart) (fun (i0 : Int) (v0 : Int) => (⟨[(0, .data (Ty.sl TPart) x), (1, .data TInt v0), (5, .data TInt i0)], []⟩ : St)) x (F.laws_szPartS_l0 x left) (fun v0 : Int => True) (outD (fun v0 : Int => True → K (.exit 0) (⟨[(1, .data TInt v0)], []⟩ : St)) (fun q0 : Unit => K .ret (⟨[(4, .data TInt (-1 : Int))], []⟩ : St))) m st_
def L80 (x : (List (TPart).D)) (left : Int) : Loops := fun id m st_ K => match id with
  | 0 => LP80_0 x left m st_ K
  | _ => False
theorem vc80 (x : (List (TPart).D)) (left : Int) (K : AV → Hp → Prop) : awp C80 (L80 x left) ann80 (bodyOf f80) ⟨argEnv 0 [.data (Ty.sl TPart) x, .data TInt left], []⟩ (outK tab false f80.results.toList (hasBox []) (resK (.dat TInt) K)) =
  (cond (decide (wrap64 (left - (x.length : Int)) < (0 : Int))) (K (.data TInt (-1 : Int)) []) ((∃ m_, (True) ∧ LoopE (t := TPart) (fun (i0 : Int) (v0 : Int) => (⟨[(0, .data (Ty.sl TPart) x), (1, .data TInt v0), (5, .data TInt i0)], []⟩ : St)) x (F.laws_szPartS_l0 x left) (fun v0 : Int => True) (outD (fun v0 : Int => True → K (.data TInt v0) []) (fun q0 : Unit => K (.data TInt (-1 : Int)) [])) m_ (⟨[(0, .data (Ty.sl TPart) x), (1, .data TInt (wrap64 (left - (x.length : Int)))), (5, .data TInt (0 : Int))], []⟩ : St)))) := by kernel_rfl
theorem lvc80_0 (x : (List (TPart).D)) (left : Int)  (i0 : Int) (v0 : Int) (m : Nat) (K : X → St → Prop) : awp C80 (L80 x left) ann80 (loopAt (bodyOf f80) 0) (⟨[(0, .data (Ty.sl TPart) x), (1, .data TInt v0), (5, .data TInt i0)], []⟩ : St) (thenW (fun s' => ∃ m', m' < m ∧ (L80 x left) 0 m' s' K) (exitN 0 (ann80 (behind 0)) K)) =
  (cond (decide (i0 < (x.length : Int))) ((0 ≤ i0) ∧ (i0 < (x.length : Int)) ∧ (Ln TPart (nth (t := TPart) x i0)) ∧ (0 ≤ v0) ∧ (v0 ≤ 1048576) ∧ cond (decide ((M.szPart (nth (t := TPart) x i0) v0) < (0 : Int))) (K .ret (⟨[(4, .data TInt (-1 : Int))], []⟩ : St)) ((∃ m_, m_ < m ∧ (L80 x left) 0 m_ (⟨[(0, .data (Ty.sl TPart) x), (1, .data TInt (M.szPart (nth (t := TPart) x i0) v0)), (5, .data TInt (wrap64 (i0 + (1 : Int))))], []⟩ : St) K))) (K (.exit 0) (⟨[(1, .data TInt v0)], []⟩ : St))) := by kernel_rfl
theorem con80_ok : ConOk P 80 c80 := by
  refine con_okR (fn := f80) (code := bodyOf f80) (tab_ok tab_check cmp_check) consOk80 mixed func80 rfl rfl fun args hp K h0 => ?_
  obtain ⟨a0, a1, rfl, rfl, h1⟩ := args2_elim h0
  obtain ⟨x, rfl, h2⟩ := withD_elim h1
  obtain ⟨left, rfl, h3⟩ := withD_elim h2
  obtain ⟨h_x, p0, p1, hK⟩ := h3
  have h : ok (F.laws_szPartS x left) (fun r => K (.data TInt r) []) := ok_of_eq (F.laws_szPartS_eq x left h_x p0 p1) hK
  refine ⟨⟨show (2 : Nat) ≤ 27 by decide, show (2 : Nat) ≤ 1000000 by decide⟩, ann80, (L80 x left), (.dat TInt), (loopsN1 (i0 := 0) (by kernel_rfl) ?_), ?_⟩
  · clear h
    intro m_ s_ K_ h
    obtain ⟨hc0, i0, v0, rfl, hl0, rfl, hv0, h⟩ := (show LP80_0 x left m_ s_ K_ from h)
    rw [lvc80_0 x left i0 v0 _ K_]
    exact (loopE_step (t := TPart) hl0 h (fun ht0 h => ⟨hl0, ⟨ht0, ⟨(sm_nth h_x i0), ⟨(ok_guard h).1, have h := (ok_guard h).2; ⟨(ok_guard h).1, have h := (ok_guard h).2; (ok_cond h (fun b_16 h => (have h := ok_ret h; h)) (fun b_16 h => (loopE_next (t := TPart) (fun m hm => (show LP80_0 x left m _ _ from ⟨hc0, hm⟩)) (M.szPart (nth (t := TPart) x i0) v0) rfl hl0 ht0 (sm_len h_x) trivial (have h := ok_ret h; h))))⟩⟩⟩⟩⟩) (fun h => (h trivial)))
  · rw [vc80 x left K]
    exact (ok_cond h (fun b_1 h => (have h := ok_ret h; h)) (fun b_1 h => (loopE_start (t := TPart) (fun m hm => ⟨trivial, hm⟩) (wrap64 (left - (x.length : Int))) rfl trivial (ok_then h (fun v0 h hv0 => (have h := ok_ret h; h)) (fun q0 h => (have h := ok_ret h; h))))))

/-! 50: loop.example/tablehouse/laws.szGuard -/
def c50 : Con := ⟨[.dat TGuard, .dat TInt], fun args hp K => args2 (fun a0 a1 => withD TGuard a0 fun x => withD TInt a1 fun left => (Ln TGuard x) ∧ (0 ≤ left) ∧ (left ≤ 1048576) ∧ K (.data TInt (M.szGuard x left)) []) args hp, .plain⟩
def cons50 : Cons := [(80, c80)]
def inl50 : List (Nat × Inl) := []
@[reducible] def C50 : Ctx := ⟨tab, fun t => memN t cmps, cons50, 12, inl50, 0, false⟩
theorem consOk50 : ConsOk P C50 := by
  refine consOk_cons (enter_ok (fn := f80) func80 (by kernel_rfl) rfl) con80_ok ?_
  exact consOk_nil
def ann50 : Nat → List Dir
  | 0 => [.fixRow 2 TGuard, .keep [1, 2]]
  | 1 => [.keep [1]]
  | 2 => [.keep [1, 10]]
  | 3 => [.keep [4]]
  | 4 => [.keep [4]]
  | _ => []
def L50 (x : (TGuard).D) (left : Int) : Loops := fun id m st_ K => match id with
  | _ => False
theorem vc50 (x : (TGuard).D) (left : Int) (K : AV → Hp → Prop) : awp C50 (L50 x left) ann50 (bodyOf f50) ⟨argEnv 0 [.data TGuard x, .data TInt left], []⟩ (outK tab false f50.results.toList (hasBox []) (resK (.dat TInt) K)) =
  ((Ln (Ty.sl TPart) x.2.1) ∧ (0 ≤ left) ∧ (left ≤ 1048576) ∧ cond (decide ((M.szS M.szPart x.2.1 left) < (0 : Int))) (K (.data TInt (-1 : Int)) []) (K (.data TInt (M.szS M.szPart x.2.1 left)) [])) := by kernel_rfl
theorem con50_ok : ConOk P 50 c50 := by
  refine con_okR (fn := f50) (code := bodyOf f50) (tab_ok tab_check cmp_check) consOk50 mixed func50 rfl rfl fun args hp K h0 => ?_
  obtain ⟨a0, a1, rfl, rfl, h1⟩ := args2_elim h0
  obtain ⟨x, rfl, h2⟩ := withD_elim h1
  obtain ⟨left, rfl, h3⟩ := withD_elim h2
  obtain ⟨h_x, p0, p1, hK⟩ := h3
  have h : ok (F.laws_szGuard x left) (fun r => K (.data TInt r) []) := ok_of_eq (F.laws_szGuard_eq x left h_x p0 p1) hK
  refine ⟨⟨show (2 : Nat) ≤ 12 by decide, show (2 : Nat) ≤ 1000000 by decide⟩, ann50, (L50 x left), (.dat TInt), (no_loops (by kernel_rfl)), ?_⟩
  · rw [vc50 x left K]
    exact ⟨h_x.2.1, ⟨p0, ⟨p1, (ok_cond h (fun b_1 h => (have h := ok_ret h; h)) (fun b_1 h => (have h := ok_ret h; h)))⟩⟩⟩

/-! 19: loop.example/tablehouse/laws.szGuardS -/
def c19 : Con := ⟨[.dat (Ty.sl TGuard), .dat TInt], fun args hp K => args2 (fun a0 a1 => withD (Ty.sl TGuard) a0 fun x => withD TInt a1 fun left => (Ln (Ty.sl TGuard) x) ∧ (0 ≤ left) ∧ (left ≤ 1048576) ∧ K (.data TInt (M.szS M.szGuard x left)) []) args hp, .plain⟩
def cons19 : Cons := [(50, c50)]
def inl19 : List (Nat × Inl) := []
@[reducible] def C19 : Ctx := ⟨tab, fun t => memN t cmps, cons19, 27, inl19, 0, false⟩
theorem consOk19 : ConsOk P C19 := by
  refine consOk_cons (enter_ok (fn := f50) func50 (by kernel_rfl) rfl) con50_ok ?_
  exact consOk_nil
def ann19 : Nat → List Dir
  | 0 => [.keep [0, 1]]
  | 1 => [.keep [0, 1]]
  | 2 => [.keep [0, 1, 11]]
  | 3 => [.keep [4]]
  | 4 => [.keep [0, 1, 5]]
  | 5 => [.keep [0, 1, 5, 15]]
  | 6 => [.keep [0, 1, 5]]
  | 7 => [.keep [0, 1, 5]]
  | 8 => [.keep [0, 1, 5, 25]]
  | 9 => [.keep [4]]
  | 10 => [.keep [4]]
  | 100000 => [.keep [1]]
  | _ => []
@[reducible] def LP19_0 (x : (List (TGuard).D)) (left : Int) (m : Nat) (st_ : St) (K : X → St → Prop) : Prop := (True) ∧ LoopE (t := TGuard) (fun (i0 : Int) (v0 : Int) => (⟨[(0, .data (Ty.sl TGuard) x), (1, .data TInt v0), (5, .data TInt i0)], []⟩ : St)) x (F.laws_szGuardS_l0 x left) (fun v0 : Int => True) (outD (fun v0 : Int => True → K (.exit 0) (⟨[(1, .data TInt v0)], []⟩ : St)) (fun q0 : Unit => K .ret (⟨[(4, .data TInt (-1 : Int))], []⟩ : St))) m st_
def L19 (x : (List (TGuard).D)) (left : Int) : Loops := fun id m st_ K => match id with
  | 0 => LP19_0 x left m st_ K
  | _ => False
theorem vc19 (x : (List (TGuard).D)) (left : Int) (K : AV → Hp → Prop) : awp C19 (L19 x left) ann19 (bodyOf f19) ⟨argEnv 0 [.data (Ty.sl TGuard) x, .data TInt left], []⟩ (outK tab false f19.results.toList (hasBox []) (resK (.dat TInt) K)) =
  (cond (decide (wrap64 (left - (x.length : Int)) < (0 : Int))) (K (.data TInt (-1 : Int)) []) ((∃ m_, (True) ∧ LoopE (t := TGuard) (fun (i0 : Int) (v0 : Int) => (⟨[(0, .data (Ty.sl TGuard) x), (1, .data TInt v0), (5, .data TInt i0)], []⟩ : St)) x (F.laws_szGuardS_l0 x left) (fun v0 : Int => True) (outD (fun v0 : Int => True → K (.data TInt v0) []) (fun q0 : Unit => K (.data TInt (-1 : Int)) [])) m_ (⟨[(0, .data (Ty.sl TGuard) x), (1, .data TInt (wrap64 (left - (x.length : Int)))), (5, .data TInt (0 : Int))], []⟩ : St)))) := by kernel_rfl
theorem lvc19_0 (x : (List (TGuard).D)) (left : Int)  (i0 : Int) (v0 : Int) (m : Nat) (K : X → St → Prop) : awp C19 (L19 x left) ann19 (loopAt (bodyOf f19) 0) (⟨[(0, .data (Ty.sl TGuard) x), (1, .data TInt v0), (5, .data TInt i0)], []⟩ : St) (thenW (fun s' => ∃ m', m' < m ∧ (L19 x left) 0 m' s' K) (exitN 0 (ann19 (behind 0)) K)) =
  (cond (decide (i0 < (x.length : Int))) ((0 ≤ i0) ∧ (i0 < (x.length : Int)) ∧ (Ln TGuard (nth (t := TGuard) x i0)) ∧ (0 ≤ v0) ∧ (v0 ≤ 1048576) ∧ cond (decide ((M.szGuard (nth (t := TGuard) x i0) v0) < (0 : Int))) (K .ret (⟨[(4, .data TInt (-1 : Int))], []⟩ : St)) ((∃ m_, m_ < m ∧ (L19 x left) 0 m_ (⟨[(0, .data (Ty.sl TGuard) x), (1, .data TInt (M.szGuard (nth (t := TGuard) x i0) v0)), (5, .data TInt (wrap64 (i0 + (1 : Int))))], []⟩ : St) K))) (K (.exit 0) (⟨[(1, .data TInt v0)], []⟩ : St))) := by kernel_rfl
theorem con19_ok : ConOk P 19 c19 := by
  refine con_okR (fn := f19) (code := bodyOf f19) (tab_ok tab_check cmp_check) consOk19 mixed func19 rfl rfl fun args hp K h0 => ?_
  obtain ⟨a0, a1, rfl, rfl, h1⟩ := args2_elim h0
  obtain ⟨x, rfl, h2⟩ := withD_elim h1
  obtain ⟨left, rfl, h3⟩ := withD_elim h2
  obtain ⟨h_x, p0, p1, hK⟩ := h3
  have h : ok (F.laws_szGuardS x left) (fun r => K (.data TInt r) []) := ok_of_eq (F.laws_szGuardS_eq x left h_x p0 p1) hK
  refine ⟨⟨show (2 : Nat) ≤ 27 by decide, show (2 : Nat) ≤ 1000000 by decide⟩, ann19, (L19 x left), (.dat TInt), (loopsN1 (i0 := 0) (by kernel_rfl) ?_), ?_⟩
  · clear h
    intro m_ s_ K_ h
    obtain ⟨hc0, i0, v0, rfl, hl0, rfl, hv0, h⟩ := (show LP19_0 x left m_ s_ K_ from h)
    rw [lvc19_0 x left i0 v0 _ K_]
    exact (loopE_step (t := TGuard) hl0 h (fun ht0 h => ⟨hl0, ⟨ht0, ⟨(sm_nth h_x i0), ⟨(ok_guard h).1, have h := (ok_guard h).2; ⟨(ok_guard h).1, have h := (ok_guard h).2; (ok_cond h (fun b_16 h => (have h := ok_ret h; h)) (fun b_16 h => (loopE_next (t := TGuard) (fun m hm => (show LP19_0 x left m _ _ from ⟨hc0, hm⟩)) (M.szGuard (nth (t := TGuard) x i0) v0) rfl hl0 ht0 (sm_len h_x) trivial (have h := ok_ret h; h))))⟩⟩⟩⟩⟩) (fun h => (h trivial)))
  · rw [vc19 x left K]
    exact (ok_cond h (fun b_1 h => (have h := ok_ret h; h)) (fun b_1 h => (loopE_start (t := TGuard) (fun m hm => ⟨trivial, hm⟩) (wrap64 (left - (x.length : Int))) rfl trivial (ok_then h (fun v0 h hv0 => (have h := ok_ret h; h)) (fun q0 h => (have h := ok_ret h; h))))))

/-! 62: loop.example/tablehouse/spec.l1In -/
def c62 : Con := ⟨[.dat TInt, .dat TInt, .dat TInt], fun args hp K => args3 (fun a0 a1 a2 => withD TInt a0 fun n => withD TInt a1 fun low => withD TInt a2 fun high => K (.data Ty.bool (M.inR n low high)) []) args hp, .plain⟩
def cons62 : Cons := []
def inl62 : List (Nat × Inl) := []
@[reducible] def C62 : Ctx := ⟨tab, fun t => memN t cmps, cons62, 15, inl62, 0, false⟩
theorem consOk62 : ConsOk P C62 := by
  exact consOk_nil
def ann62 : Nat → List Dir
  | 0 => [.keep [0, 1, 2]]
  | 1 => [.keep [6]]
  | _ => []
def L62 (n : Int) (low : Int) (high : Int) : Loops := fun id m st_ K => match id with
  | _ => False
theorem vc62 (n : Int) (low : Int) (high : Int) (K : AV → Hp → Prop) : awp C62 (L62 n low high) ann62 (bodyOf f62) ⟨argEnv 0 [.data TInt n, .data TInt low, .data TInt high], []⟩ (outK tab false f62.results.toList (hasBox []) (resK (.dat Ty.bool) K)) =
  (cond ((decide (low ≤ n)) == true) (K (.data Ty.bool (decide (n ≤ high))) []) (K (.data Ty.bool false) [])) := by kernel_rfl
theorem con62_ok : ConOk P 62 c62 := by
  refine con_okR (fn := f62) (code := bodyOf f62) (tab_ok tab_check cmp_check) consOk62 mixed func62 rfl rfl fun args hp K h0 => ?_
  obtain ⟨a0, a1, a2, rfl, rfl, h1⟩ := args3_elim h0
  obtain ⟨n, rfl, h2⟩ := withD_elim h1
  obtain ⟨low, rfl, h3⟩ := withD_elim h2
  obtain ⟨high, rfl, h4⟩ := withD_elim h3
  have hK := h4
  have h : ok (F.spec_l1In n low high) (fun r => K (.data Ty.bool r) []) := ok_of_eq (F.spec_l1In_eq n low high) hK
  refine ⟨⟨show (3 : Nat) ≤ 15 by decide, show (3 : Nat) ≤ 1000000 by decide⟩, ann62, (L62 n low high), (.dat Ty.bool), (no_loops (by kernel_rfl)), ?_⟩
  · rw [vc62 n low high K]
    exact (ok_cond h (fun b_1 h => (have h := ok_ret h; h)) (fun b_1 h => (have h := ok_ret h; h)))

/-! 126: loop.example/tablehouse/spec.ColumnsOk -/
def c126 : Con := ⟨[.dat (Ty.sl TColumn)], fun args hp K => args1 (fun a0 => withD (Ty.sl TColumn) a0 fun columns => (Sm (Ty.sl TColumn) columns) ∧ K (.data Ty.bool (M.columnsOk columns)) []) args hp, .plain⟩
def cons126 : Cons := [(62, c62)]
def inl126 : List (Nat × Inl) := []
@[reducible] def C126 : Ctx := ⟨tab, fun t => memN t cmps, cons126, 20, inl126, 0, false⟩
theorem consOk126 : ConsOk P C126 := by
  refine consOk_cons (enter_ok (fn := f62) func62 (by kernel_rfl) rfl) con62_ok ?_
  exact consOk_nil
def ann126 : Nat → List Dir
  | 0 => [.keep [0]]
  | 1 => [.keep [0, 3]]
  | 2 => [.keep [0, 3, 7]]
  | 3 => [.keep [0, 3]]
  | 4 => [.keep [0, 3, 16]]
  | 5 => [.keep [2]]
  | 6 => [.keep [2]]
  | 100000 => [.keep [0]]
  | _ => []
@[reducible] def LP126_0 (columns : (List (TColumn).D)) (m : Nat) (st_ : St) (K : X → St → Prop) : Prop := (True) ∧ LoopE (t := TColumn) (fun (i0 : Int) (v0 : Unit) => (⟨[(0, .data (Ty.sl TColumn) columns), (3, .data TInt i0)], []⟩ : St)) columns (F.spec_ColumnsOk_l0 columns) (fun v0 : Unit => True) (outD (fun v0 : Unit => True → K (.exit 0) (⟨[(0, .data (Ty.sl TColumn) columns)], []⟩ : St)) (fun q0 : Unit => K .ret (⟨[(2, .data Ty.bool false)], []⟩ : St))) m st_
def L126 (columns : (List (TColumn).D)) : Loops := fun id m st_ K => match id with
  | 0 => LP126_0 columns m st_ K
  | _ => False
theorem vc126 (columns : (List (TColumn).D)) (K : AV → Hp → Prop) : awp C126 (L126 columns) ann126 (bodyOf f126) ⟨argEnv 0 [.data (Ty.sl TColumn) columns], []⟩ (outK tab false f126.results.toList (hasBox []) (resK (.dat Ty.bool) K)) =
  ((∃ m_, (True) ∧ LoopE (t := TColumn) (fun (i0 : Int) (v0 : Unit) => (⟨[(0, .data (Ty.sl TColumn) columns), (3, .data TInt i0)], []⟩ : St)) columns (F.spec_ColumnsOk_l0 columns) (fun v0 : Unit => True) (outD (fun v0 : Unit => True → K (.data Ty.bool (decide ((columns.length : Int) ≤ (4 : Int)))) []) (fun q0 : Unit => K (.data Ty.bool false) [])) m_ (⟨[(0, .data (Ty.sl TColumn) columns), (3, .data TInt (0 : Int))], []⟩ : St))) := by kernel_rfl
theorem lvc126_0 (columns : (List (TColumn).D))  (i0 : Int) (v0 : Unit) (m : Nat) (K : X → St → Prop) : awp C126 (L126 columns) ann126 (loopAt (bodyOf f126) 0) (⟨[(0, .data (Ty.sl TColumn) columns), (3, .data TInt i0)], []⟩ : St) (thenW (fun s' => ∃ m', m' < m ∧ (L126 columns) 0 m' s' K) (exitN 0 (ann126 (behind 0)) K)) =
  (cond (decide (i0 < (columns.length : Int))) ((0 ≤ i0) ∧ (i0 < (columns.length : Int)) ∧ cond (!(M.inR ((nth (t := TColumn) columns i0).1) (1 : Int) (3 : Int))) (K .ret (⟨[(2, .data Ty.bool false)], []⟩ : St)) ((∃ m_, m_ < m ∧ (L126 columns) 0 m_ (⟨[(0, .data (Ty.sl TColumn) columns), (3, .data TInt (wrap64 (i0 + (1 : Int))))], []⟩ : St) K))) (K (.exit 0) (⟨[(0, .data (Ty.sl TColumn) columns)], []⟩ : St))) := by kernel_rfl
theorem con126_ok : ConOk P 126 c126 := by
  refine con_okR (fn := f126) (code := bodyOf f126) (tab_ok tab_check cmp_check) consOk126 mixed func126 rfl rfl fun args hp K h0 => ?_
  obtain ⟨a0, rfl, rfl, h1⟩ := args1_elim h0
  obtain ⟨columns, rfl, h2⟩ := withD_elim h1
  obtain ⟨h_columns, hK⟩ := h2
  have h : ok (F.spec_ColumnsOk columns) (fun r => K (.data Ty.bool r) []) := ok_of_eq (F.spec_ColumnsOk_eq columns h_columns) hK
  refine ⟨⟨show (1 : Nat) ≤ 20 by decide, show (1 : Nat) ≤ 1000000 by decide⟩, ann126, (L126 columns), (.dat Ty.bool), (loopsN1 (i0 := 0) (by kernel_rfl) ?_), ?_⟩
  · clear h
    intro m_ s_ K_ h
    obtain ⟨hc0, i0, v0, rfl, hl0, rfl, hv0, h⟩ := (show LP126_0 columns m_ s_ K_ from h)
    rw [lvc126_0 columns i0 v0 _ K_]
    exact (loopE_step (t := TColumn) hl0 h (fun ht0 h => ⟨hl0, ⟨ht0, (ok_cond h (fun b_9 h => (have h := ok_ret h; h)) (fun b_9 h => (loopE_next (t := TColumn) (fun m hm => (show LP126_0 columns m _ _ from ⟨hc0, hm⟩)) () rfl hl0 ht0 (sm_len h_columns) trivial (have h := ok_ret h; h))))⟩⟩) (fun h => (h trivial)))
  · rw [vc126 columns K]
    exact (loopE_start (t := TColumn) (fun m hm => ⟨trivial, hm⟩) () rfl trivial (ok_then h (fun v0 h hv0 => (have h := ok_ret h; h)) (fun q0 h => (have h := ok_ret h; h))))

/-! 192: loop.example/tablehouse/spec.l1Text -/
def c192 : Con := ⟨[.dat Ty.str], fun args hp K => args1 (fun a0 => withD Ty.str a0 fun s => (Sm Ty.str s) ∧ K (.data Ty.bool (M.text s)) []) args hp, .plain⟩
def cons192 : Cons := []
def inl192 : List (Nat × Inl) := []
@[reducible] def C192 : Ctx := ⟨tab, fun t => memN t cmps, cons192, 23, inl192, 0, false⟩
theorem consOk192 : ConsOk P C192 := by
  exact consOk_nil
def ann192 : Nat → List Dir
  | 0 => [.keep [0]]
  | 1 => [.keep [0, 3]]
  | 2 => [.keep [0, 3, 7]]
  | 3 => [.keep [0, 3]]
  | 4 => [.keep [0, 3, 19]]
  | 5 => [.keep [2]]
  | 6 => [.keep [2]]
  | 100000 => [.keep [0]]
  | _ => []
@[reducible] def LP192_0 (s : ByteArray) (m : Nat) (st_ : St) (K : X → St → Prop) : Prop := (True) ∧ LoopI (fun (i0 : Int) (v0 : Unit) => (⟨[(0, .data Ty.str s), (3, .data TInt i0)], []⟩ : St)) (0 : Int) (s.size : Int) (F.spec_l1Text_l0 s) (fun v0 : Unit => True) (outD (fun v0 : Unit => True → K (.exit 0) (⟨[(0, .data Ty.str s)], []⟩ : St)) (fun q0 : Unit => K .ret (⟨[(2, .data Ty.bool false)], []⟩ : St))) m st_
def L192 (s : ByteArray) : Loops := fun id m st_ K => match id with
  | 0 => LP192_0 s m st_ K
  | _ => False
theorem vc192 (s : ByteArray) (K : AV → Hp → Prop) : awp C192 (L192 s) ann192 (bodyOf f192) ⟨argEnv 0 [.data Ty.str s], []⟩ (outK tab false f192.results.toList (hasBox []) (resK (.dat Ty.bool) K)) =
  ((∃ m_, (True) ∧ LoopI (fun (i0 : Int) (v0 : Unit) => (⟨[(0, .data Ty.str s), (3, .data TInt i0)], []⟩ : St)) (0 : Int) (s.size : Int) (F.spec_l1Text_l0 s) (fun v0 : Unit => True) (outD (fun v0 : Unit => True → K (.data Ty.bool (decide ((s.size : Int) ≤ (6 : Int)))) []) (fun q0 : Unit => K (.data Ty.bool false) [])) m_ (⟨[(0, .data Ty.str s), (3, .data TInt (0 : Int))], []⟩ : St))) := by kernel_rfl
theorem lvc192_0 (s : ByteArray)  (i0 : Int) (v0 : Unit) (m : Nat) (K : X → St → Prop) : awp C192 (L192 s) ann192 (loopAt (bodyOf f192) 0) (⟨[(0, .data Ty.str s), (3, .data TInt i0)], []⟩ : St) (thenW (fun s' => ∃ m', m' < m ∧ (L192 s) 0 m' s' K) (exitN 0 (ann192 (behind 0)) K)) =
  (cond (decide (i0 < (s.size : Int))) ((0 ≤ i0) ∧ (i0 < (s.size : Int)) ∧ cond ((decide (((s.get! i0.toNat).toNat : Int) < (97 : Int))) == false) ((0 ≤ i0) ∧ (i0 < (s.size : Int)) ∧ cond (decide ((122 : Int) < ((s.get! i0.toNat).toNat : Int))) (K .ret (⟨[(2, .data Ty.bool false)], []⟩ : St)) ((∃ m_, m_ < m ∧ (L192 s) 0 m_ (⟨[(0, .data Ty.str s), (3, .data TInt (wrap64 (i0 + (1 : Int))))], []⟩ : St) K))) (K .ret (⟨[(2, .data Ty.bool false)], []⟩ : St))) (K (.exit 0) (⟨[(0, .data Ty.str s)], []⟩ : St))) := by kernel_rfl
theorem con192_ok : ConOk P 192 c192 := by
  refine con_okR (fn := f192) (code := bodyOf f192) (tab_ok tab_check cmp_check) consOk192 mixed func192 rfl rfl fun args hp K h0 => ?_
  obtain ⟨a0, rfl, rfl, h1⟩ := args1_elim h0
  obtain ⟨s, rfl, h2⟩ := withD_elim h1
  obtain ⟨h_s, hK⟩ := h2
  have h : ok (F.spec_l1Text s) (fun r => K (.data Ty.bool r) []) := ok_of_eq (F.spec_l1Text_eq s h_s) hK
  refine ⟨⟨show (1 : Nat) ≤ 23 by decide, show (1 : Nat) ≤ 1000000 by decide⟩, ann192, (L192 s), (.dat Ty.bool), (loopsN1 (i0 := 0) (by kernel_rfl) ?_), ?_⟩
  · clear h
    intro m_ s_ K_ h
    obtain ⟨hc0, i0, v0, rfl, hl0, rfl, hv0, h⟩ := (show LP192_0 s m_ s_ K_ from h)
    rw [lvc192_0 s i0 v0 _ K_]
    exact (loopI_step h (fun ht0 h => ⟨hl0, ⟨ht0, (ok_cond h (fun b_11 h => ⟨hl0, ⟨ht0, (ok_cond h (fun b_12 h => (have h := ok_ret h; h)) (fun b_12 h => (loopI_next (fun m hm => (show LP192_0 s m _ _ from ⟨hc0, hm⟩)) () rfl hl0 low0 ht0 (sm_size h_s) trivial (have h := ok_ret h; h))))⟩⟩) (fun b_11 h => (have h := ok_ret h; h)))⟩⟩) (fun h => (h trivial)))
  · rw [vc192 s K]
    exact (loopI_start (fun m hm => ⟨trivial, hm⟩) (0 : Int) () rfl (Int.natCast_nonneg 0) trivial (ok_then h (fun v0 h hv0 => (have h := ok_ret h; h)) (fun q0 h => (have h := ok_ret h; h))))

/-! 157: loop.example/tablehouse/spec.ValueOk -/
def c157 : Con := ⟨[.dat TValue], fun args hp K => args1 (fun a0 => withD TValue a0 fun v => (Sm TValue v) ∧ K (.data Ty.bool (M.valueOk v)) []) args hp, .plain⟩
def cons157 : Cons := [(62, c62), (192, c192)]
def inl157 : List (Nat × Inl) := []
@[reducible] def C157 : Ctx := ⟨tab, fun t => memN t cmps, cons157, 45, inl157, 0, false⟩
theorem consOk157 : ConsOk P C157 := by
  refine consOk_cons (enter_ok (fn := f62) func62 (by kernel_rfl) rfl) con62_ok ?_
  refine consOk_cons (enter_ok (fn := f192) func192 (by kernel_rfl) rfl) con192_ok ?_
  exact consOk_nil
def ann157 : Nat → List Dir
  | 0 => [.fixRow 1 TValue, .keep [1]]
  | 1 => [.keep [1, 4]]
  | 2 => [.keep [1, 4, 5]]
  | 3 => [.keep [2]]
  | 4 => [.keep [1, 4, 15]]
  | 5 => [.keep [2]]
  | 6 => [.keep [1, 4, 25]]
  | 7 => [.keep [2]]
  | 8 => [.keep [1, 35]]
  | 9 => [.keep [2]]
  | 10 => [.keep [2]]
  | _ => []
def L157 (v : (TValue).D) : Loops := fun id m st_ K => match id with
  | _ => False
theorem vc157 (v : (TValue).D) (K : AV → Hp → Prop) : awp C157 (L157 v) ann157 (bodyOf f157) ⟨argEnv 0 [.data TValue v], []⟩ (outK tab false f157.results.toList (hasBox []) (resK (.dat Ty.bool) K)) =
  (cond (decide (v.1 = (0 : Int))) (cond ((decide (v.2.1 = (0 : Int))) == true) (K (.data Ty.bool (decide (v.2.2.1 = (⟨#[]⟩ : ByteArray)))) []) (K (.data Ty.bool false) [])) (cond (decide (v.1 = (1 : Int))) (cond ((M.inR v.2.1 (-9999 : Int) (9999 : Int)) == true) (K (.data Ty.bool (decide (v.2.2.1 = (⟨#[]⟩ : ByteArray)))) []) (K (.data Ty.bool false) [])) (cond (decide (v.1 = (2 : Int))) (cond ((decide (v.2.1 = (0 : Int))) == true) ((Sm Ty.str v.2.2.1) ∧ K (.data Ty.bool (M.text v.2.2.1)) []) (K (.data Ty.bool false) [])) (cond (decide (v.1 = (3 : Int))) (cond ((M.inR v.2.1 (0 : Int) (1 : Int)) == true) (K (.data Ty.bool (decide (v.2.2.1 = (⟨#[]⟩ : ByteArray)))) []) (K (.data Ty.bool false) [])) (K (.data Ty.bool false) []))))) := by kernel_rfl
theorem con157_ok : ConOk P 157 c157 := by
  refine con_okR (fn := f157) (code := bodyOf f157) (tab_ok tab_check cmp_check) consOk157 mixed func157 rfl rfl fun args hp K h0 => ?_
  obtain ⟨a0, rfl, rfl, h1⟩ := args1_elim h0
  obtain ⟨v, rfl, h2⟩ := withD_elim h1
  obtain ⟨h_v, hK⟩ := h2
  have h : ok (F.spec_ValueOk v) (fun r => K (.data Ty.bool r) []) := ok_of_eq (F.spec_ValueOk_eq v h_v) hK
  refine ⟨⟨show (1 : Nat) ≤ 45 by decide, show (1 : Nat) ≤ 1000000 by decide⟩, ann157, (L157 v), (.dat Ty.bool), (no_loops (by kernel_rfl)), ?_⟩
  · rw [vc157 v K]
    exact (ok_cond h (fun b_1 h => (ok_cond h (fun b_2 h => (have h := ok_ret h; h)) (fun b_2 h => (have h := ok_ret h; h)))) (fun b_1 h => (ok_cond h (fun b_3 h => (ok_cond h (fun b_4 h => (have h := ok_ret h; h)) (fun b_4 h => (have h := ok_ret h; h)))) (fun b_3 h => (ok_cond h (fun b_5 h => (ok_cond h (fun b_6 h => ⟨h_v.2.2.1, (have h := ok_ret h; h)⟩) (fun b_6 h => (have h := ok_ret h; h)))) (fun b_5 h => (ok_cond h (fun b_7 h => (ok_cond h (fun b_8 h => (have h := ok_ret h; h)) (fun b_8 h => (have h := ok_ret h; h)))) (fun b_7 h => (have h := ok_ret h; h)))))))))

/-! 190: loop.example/tablehouse/spec.RowOk -/
def c190 : Con := ⟨[.dat (Ty.sl TValue)], fun args hp K => args1 (fun a0 => withD (Ty.sl TValue) a0 fun row => (Sm (Ty.sl TValue) row) ∧ K (.data Ty.bool (M.rowOk row)) []) args hp, .plain⟩
def cons190 : Cons := [(157, c157)]
def inl190 : List (Nat × Inl) := []
@[reducible] def C190 : Ctx := ⟨tab, fun t => memN t cmps, cons190, 19, inl190, 0, false⟩
theorem consOk190 : ConsOk P C190 := by
  refine consOk_cons (enter_ok (fn := f157) func157 (by kernel_rfl) rfl) con157_ok ?_
  exact consOk_nil
def ann190 : Nat → List Dir
  | 0 => [.keep [0]]
  | 1 => [.keep [0, 3]]
  | 2 => [.keep [0, 3, 7]]
  | 3 => [.keep [0, 3]]
  | 4 => [.keep [0, 3, 15]]
  | 5 => [.keep [2]]
  | 6 => [.keep [2]]
  | 100000 => [.keep [0]]
  | _ => []
@[reducible] def LP190_0 (row : (List (TValue).D)) (m : Nat) (st_ : St) (K : X → St → Prop) : Prop := (True) ∧ LoopE (t := TValue) (fun (i0 : Int) (v0 : Unit) => (⟨[(0, .data (Ty.sl TValue) row), (3, .data TInt i0)], []⟩ : St)) row (F.spec_RowOk_l0 row) (fun v0 : Unit => True) (outD (fun v0 : Unit => True → K (.exit 0) (⟨[(0, .data (Ty.sl TValue) row)], []⟩ : St)) (fun q0 : Unit => K .ret (⟨[(2, .data Ty.bool false)], []⟩ : St))) m st_
def L190 (row : (List (TValue).D)) : Loops := fun id m st_ K => match id with
  | 0 => LP190_0 row m st_ K
  | _ => False
theorem vc190 (row : (List (TValue).D)) (K : AV → Hp → Prop) : awp C190 (L190 row) ann190 (bodyOf f190) ⟨argEnv 0 [.data (Ty.sl TValue) row], []⟩ (outK tab false f190.results.toList (hasBox []) (resK (.dat Ty.bool) K)) =
  ((∃ m_, (True) ∧ LoopE (t := TValue) (fun (i0 : Int) (v0 : Unit) => (⟨[(0, .data (Ty.sl TValue) row), (3, .data TInt i0)], []⟩ : St)) row (F.spec_RowOk_l0 row) (fun v0 : Unit => True) (outD (fun v0 : Unit => True → K (.data Ty.bool (decide ((row.length : Int) ≤ (4 : Int)))) []) (fun q0 : Unit => K (.data Ty.bool false) [])) m_ (⟨[(0, .data (Ty.sl TValue) row), (3, .data TInt (0 : Int))], []⟩ : St))) := by kernel_rfl
theorem lvc190_0 (row : (List (TValue).D))  (i0 : Int) (v0 : Unit) (m : Nat) (K : X → St → Prop) : awp C190 (L190 row) ann190 (loopAt (bodyOf f190) 0) (⟨[(0, .data (Ty.sl TValue) row), (3, .data TInt i0)], []⟩ : St) (thenW (fun s' => ∃ m', m' < m ∧ (L190 row) 0 m' s' K) (exitN 0 (ann190 (behind 0)) K)) =
  (cond (decide (i0 < (row.length : Int))) ((0 ≤ i0) ∧ (i0 < (row.length : Int)) ∧ (Sm TValue (nth (t := TValue) row i0)) ∧ cond (!(M.valueOk (nth (t := TValue) row i0))) (K .ret (⟨[(2, .data Ty.bool false)], []⟩ : St)) ((∃ m_, m_ < m ∧ (L190 row) 0 m_ (⟨[(0, .data (Ty.sl TValue) row), (3, .data TInt (wrap64 (i0 + (1 : Int))))], []⟩ : St) K))) (K (.exit 0) (⟨[(0, .data (Ty.sl TValue) row)], []⟩ : St))) := by kernel_rfl
theorem con190_ok : ConOk P 190 c190 := by
  refine con_okR (fn := f190) (code := bodyOf f190) (tab_ok tab_check cmp_check) consOk190 mixed func190 rfl rfl fun args hp K h0 => ?_
  obtain ⟨a0, rfl, rfl, h1⟩ := args1_elim h0
  obtain ⟨row, rfl, h2⟩ := withD_elim h1
  obtain ⟨h_row, hK⟩ := h2
  have h : ok (F.spec_RowOk row) (fun r => K (.data Ty.bool r) []) := ok_of_eq (F.spec_RowOk_eq row h_row) hK
  refine ⟨⟨show (1 : Nat) ≤ 19 by decide, show (1 : Nat) ≤ 1000000 by decide⟩, ann190, (L190 row), (.dat Ty.bool), (loopsN1 (i0 := 0) (by kernel_rfl) ?_), ?_⟩
  · clear h
    intro m_ s_ K_ h
    obtain ⟨hc0, i0, v0, rfl, hl0, rfl, hv0, h⟩ := (show LP190_0 row m_ s_ K_ from h)
    rw [lvc190_0 row i0 v0 _ K_]
    exact (loopE_step (t := TValue) hl0 h (fun ht0 h => ⟨hl0, ⟨ht0, ⟨(sm_nth h_row i0), (ok_cond h (fun b_9 h => (have h := ok_ret h; h)) (fun b_9 h => (loopE_next (t := TValue) (fun m hm => (show LP190_0 row m _ _ from ⟨hc0, hm⟩)) () rfl hl0 ht0 (sm_len h_row) trivial (have h := ok_ret h; h))))⟩⟩⟩) (fun h => (h trivial)))
  · rw [vc190 row K]
    exact (loopE_start (t := TValue) (fun m hm => ⟨trivial, hm⟩) () rfl trivial (ok_then h (fun v0 h hv0 => (have h := ok_ret h; h)) (fun q0 h => (have h := ok_ret h; h))))

/-! 153: loop.example/tablehouse/spec.RowFits -/
def c153 : Con := ⟨[.dat (Ty.sl TColumn), .dat (Ty.sl TValue)], fun args hp K => args2 (fun a0 a1 => withD (Ty.sl TColumn) a0 fun columns => withD (Ty.sl TValue) a1 fun row => (Sm (Ty.sl TColumn) columns) ∧ (Sm (Ty.sl TValue) row) ∧ K (.data Ty.bool (M.rowFits columns row)) []) args hp, .plain⟩
def cons153 : Cons := [(126, c126), (190, c190)]
def inl153 : List (Nat × Inl) := []
@[reducible] def C153 : Ctx := ⟨tab, fun t => memN t cmps, cons153, 54, inl153, 0, false⟩
theorem consOk153 : ConsOk P C153 := by
  refine consOk_cons (enter_ok (fn := f126) func126 (by kernel_rfl) rfl) con126_ok ?_
  refine consOk_cons (enter_ok (fn := f190) func190 (by kernel_rfl) rfl) con190_ok ?_
  exact consOk_nil
def ann153 : Nat → List Dir
  | 0 => [.keep [0, 1]]
  | 1 => [.keep [0, 1, 20]]
  | 2 => [.keep [4]]
  | 3 => [.keep [0, 1, 5]]
  | 4 => [.keep [0, 1, 5, 24]]
  | 5 => [.keep [0, 1, 5]]
  | 6 => [.keep [0, 1, 5, 53]]
  | 7 => [.keep [4]]
  | 8 => [.keep [4]]
  | 100000 => [.keep []]
  | _ => []
@[reducible] def LP153_0 (columns : (List (TColumn).D)) (row : (List (TValue).D)) (m : Nat) (st_ : St) (K : X → St → Prop) : Prop := (True) ∧ LoopI (fun (i0 : Int) (v0 : Unit) => (⟨[(0, .data (Ty.sl TColumn) columns), (1, .data (Ty.sl TValue) row), (5, .data TInt i0)], []⟩ : St)) (0 : Int) (row.length : Int) (F.spec_RowFits_l0 columns row) (fun v0 : Unit => True) (outD (fun v0 : Unit => True → K (.exit 0) (⟨[], []⟩ : St)) (fun q0 : Unit => K .ret (⟨[(4, .data Ty.bool false)], []⟩ : St))) m st_
def L153 (columns : (List (TColumn).D)) (row : (List (TValue).D)) : Loops := fun id m st_ K => match id with
  | 0 => LP153_0 columns row m st_ K
  | _ => False
theorem vc153 (columns : (List (TColumn).D)) (row : (List (TValue).D)) (K : AV → Hp → Prop) : awp C153 (L153 columns row) ann153 (bodyOf f153) ⟨argEnv 0 [.data (Ty.sl TColumn) columns, .data (Ty.sl TValue) row], []⟩ (outK tab false f153.results.toList (hasBox []) (resK (.dat Ty.bool) K)) =
  ((Sm (Ty.sl TColumn) columns) ∧ cond ((!(M.columnsOk columns)) == false) ((Sm (Ty.sl TValue) row) ∧ cond ((!(M.rowOk row)) == false) (cond (!decide ((row.length : Int) = (columns.length : Int))) (K (.data Ty.bool false) []) ((∃ m_, (True) ∧ LoopI (fun (i0 : Int) (v0 : Unit) => (⟨[(0, .data (Ty.sl TColumn) columns), (1, .data (Ty.sl TValue) row), (5, .data TInt i0)], []⟩ : St)) (0 : Int) (row.length : Int) (F.spec_RowFits_l0 columns row) (fun v0 : Unit => True) (outD (fun v0 : Unit => True → K (.data Ty.bool true) []) (fun q0 : Unit => K (.data Ty.bool false) [])) m_ (⟨[(0, .data (Ty.sl TColumn) columns), (1, .data (Ty.sl TValue) row), (5, .data TInt (0 : Int))], []⟩ : St)))) (K (.data Ty.bool false) [])) (K (.data Ty.bool false) [])) := by kernel_rfl
@[reducible] def S153l0_0 (columns : (List (TColumn).D)) (row : (List (TValue).D))  (i0 : Int) (v0 : Unit) (m : Nat) (K : X → St → Prop) : Prop := (∃ m_, m_ < m ∧ (L153 columns row) 0 m_ (⟨[(0, .data (Ty.sl TColumn) columns), (1, .data (Ty.sl TValue) row), (5, .data TInt (wrap64 (i0 + (1 : Int))))], []⟩ : St) K)
theorem lvc153_0 (columns : (List (TColumn).D)) (row : (List (TValue).D))  (i0 : Int) (v0 : Unit) (m : Nat) (K : X → St → Prop) : awp C153 (L153 columns row) ann153 (loopAt (bodyOf f153) 0) (⟨[(0, .data (Ty.sl TColumn) columns), (1, .data (Ty.sl TValue) row), (5, .data TInt i0)], []⟩ : St) (thenW (fun s' => ∃ m', m' < m ∧ (L153 columns row) 0 m' s' K) (exitN 0 (ann153 (behind 0)) K)) =
  (cond (decide (i0 < (row.length : Int))) ((0 ≤ i0) ∧ (i0 < (row.length : Int)) ∧ (0 ≤ i0) ∧ (i0 < (columns.length : Int)) ∧ cond ((!decide ((nth (t := TValue) row i0).1 = (nth (t := TColumn) columns i0).1)) == true) ((0 ≤ i0) ∧ (i0 < (row.length : Int)) ∧ cond ((!decide ((nth (t := TValue) row i0).1 = (0 : Int))) == false) ((0 ≤ i0) ∧ (i0 < (columns.length : Int)) ∧ cond (!(((nth (t := TColumn) columns i0).2).1)) (K .ret (⟨[(4, .data Ty.bool false)], []⟩ : St)) ((S153l0_0  columns row i0 v0 m K))) (K .ret (⟨[(4, .data Ty.bool false)], []⟩ : St))) ((S153l0_0  columns row i0 v0 m K))) (K (.exit 0) (⟨[], []⟩ : St))) := by kernel_rfl
theorem con153_ok : ConOk P 153 c153 := by
  refine con_okR (fn := f153) (code := bodyOf f153) (tab_ok tab_check cmp_check) consOk153 mixed func153 rfl rfl fun args hp K h0 => ?_
  obtain ⟨a0, a1, rfl, rfl, h1⟩ := args2_elim h0
  obtain ⟨columns, rfl, h2⟩ := withD_elim h1
  obtain ⟨row, rfl, h3⟩ := withD_elim h2
  obtain ⟨h_columns, h_row, hK⟩ := h3
  have h : ok (F.spec_RowFits columns row) (fun r => K (.data Ty.bool r) []) := ok_of_eq (F.spec_RowFits_eq columns row h_columns h_row) hK
  refine ⟨⟨show (2 : Nat) ≤ 54 by decide, show (2 : Nat) ≤ 1000000 by decide⟩, ann153, (L153 columns row), (.dat Ty.bool), (loopsN1 (i0 := 0) (by kernel_rfl) ?_), ?_⟩
  · clear h
    intro m_ s_ K_ h
    obtain ⟨hc0, i0, v0, rfl, hl0, rfl, hv0, h⟩ := (show LP153_0 columns row m_ s_ K_ from h)
    rw [lvc153_0 columns row i0 v0 _ K_]
    exact (loopI_step h (fun ht0 h => ⟨hl0, ⟨ht0, ⟨hl0, ⟨(ok_guard h).1, have g_18 := (ok_guard h).1; have h := (ok_guard h).2; (ok_cond h (fun b_19 h => ⟨hl0, ⟨ht0, (ok_cond h (fun b_20 h => ⟨hl0, ⟨g_18, (ok_cond h (fun b_21 h => (have h := ok_ret h; h)) (fun b_21 h => (loopI_next (fun m hm => (show LP153_0 columns row m _ _ from ⟨hc0, hm⟩)) () rfl hl0 low0 ht0 (sm_len h_row) trivial (have h := ok_ret h; h))))⟩⟩) (fun b_20 h => (have h := ok_ret h; h)))⟩⟩) (fun b_19 h => (loopI_next (fun m hm => (show LP153_0 columns row m _ _ from ⟨hc0, hm⟩)) () rfl hl0 low0 ht0 (sm_len h_row) trivial (have h := ok_ret h; h))))⟩⟩⟩⟩) (fun h => (h trivial)))
  · rw [vc153 columns row K]
    exact ⟨h_columns, (ok_cond h (fun b_1 h => ⟨h_row, (ok_cond h (fun b_2 h => (ok_cond h (fun b_3 h => (have h := ok_ret h; h)) (fun b_3 h => (loopI_start (fun m hm => ⟨trivial, hm⟩) (0 : Int) () rfl (Int.natCast_nonneg 0) trivial (ok_then h (fun v0 h hv0 => (have h := ok_ret h; h)) (fun q0 h => (have h := ok_ret h; h))))))) (fun b_2 h => (have h := ok_ret h; h)))⟩) (fun b_1 h => (have h := ok_ret h; h)))⟩

/-! 119: loop.example/tablehouse/spec.RowsOk -/
def c119 : Con := ⟨[.dat (Ty.sl TColumn), .dat (Ty.sl (Ty.sl TValue))], fun args hp K => args2 (fun a0 a1 => withD (Ty.sl TColumn) a0 fun columns => withD (Ty.sl (Ty.sl TValue)) a1 fun rows => (Sm (Ty.sl TColumn) columns) ∧ (Sm (Ty.sl (Ty.sl TValue)) rows) ∧ K (.data Ty.bool (M.rowsOk columns rows)) []) args hp, .plain⟩
def cons119 : Cons := [(126, c126), (153, c153)]
def inl119 : List (Nat × Inl) := []
@[reducible] def C119 : Ctx := ⟨tab, fun t => memN t cmps, cons119, 21, inl119, 0, false⟩
theorem consOk119 : ConsOk P C119 := by
  refine consOk_cons (enter_ok (fn := f126) func126 (by kernel_rfl) rfl) con126_ok ?_
  refine consOk_cons (enter_ok (fn := f153) func153 (by kernel_rfl) rfl) con153_ok ?_
  exact consOk_nil
def ann119 : Nat → List Dir
  | 0 => [.keep [0, 1]]
  | 1 => [.keep [0, 1, 5]]
  | 2 => [.keep [0, 1, 5, 9]]
  | 3 => [.keep [0, 1, 5]]
  | 4 => [.keep [0, 1, 5, 18]]
  | 5 => [.keep [4]]
  | 6 => [.keep [4]]
  | 100000 => [.keep [0]]
  | _ => []
@[reducible] def LP119_0 (columns : (List (TColumn).D)) (rows : (List (List (TValue).D))) (m : Nat) (st_ : St) (K : X → St → Prop) : Prop := (True) ∧ LoopE (t := (Ty.sl TValue)) (fun (i0 : Int) (v0 : Unit) => (⟨[(0, .data (Ty.sl TColumn) columns), (1, .data (Ty.sl (Ty.sl TValue)) rows), (5, .data TInt i0)], []⟩ : St)) rows (F.spec_RowsOk_l0 columns rows) (fun v0 : Unit => True) (outD (fun v0 : Unit => True → K (.exit 0) (⟨[(0, .data (Ty.sl TColumn) columns)], []⟩ : St)) (fun q0 : Unit => K .ret (⟨[(4, .data Ty.bool false)], []⟩ : St))) m st_
def L119 (columns : (List (TColumn).D)) (rows : (List (List (TValue).D))) : Loops := fun id m st_ K => match id with
  | 0 => LP119_0 columns rows m st_ K
  | _ => False
theorem vc119 (columns : (List (TColumn).D)) (rows : (List (List (TValue).D))) (K : AV → Hp → Prop) : awp C119 (L119 columns rows) ann119 (bodyOf f119) ⟨argEnv 0 [.data (Ty.sl TColumn) columns, .data (Ty.sl (Ty.sl TValue)) rows], []⟩ (outK tab false f119.results.toList (hasBox []) (resK (.dat Ty.bool) K)) =
  ((∃ m_, (True) ∧ LoopE (t := (Ty.sl TValue)) (fun (i0 : Int) (v0 : Unit) => (⟨[(0, .data (Ty.sl TColumn) columns), (1, .data (Ty.sl (Ty.sl TValue)) rows), (5, .data TInt i0)], []⟩ : St)) rows (F.spec_RowsOk_l0 columns rows) (fun v0 : Unit => True) (outD (fun v0 : Unit => True → (Sm (Ty.sl TColumn) columns) ∧ K (.data Ty.bool (M.columnsOk columns)) []) (fun q0 : Unit => K (.data Ty.bool false) [])) m_ (⟨[(0, .data (Ty.sl TColumn) columns), (1, .data (Ty.sl (Ty.sl TValue)) rows), (5, .data TInt (0 : Int))], []⟩ : St))) := by kernel_rfl
theorem lvc119_0 (columns : (List (TColumn).D)) (rows : (List (List (TValue).D)))  (i0 : Int) (v0 : Unit) (m : Nat) (K : X → St → Prop) : awp C119 (L119 columns rows) ann119 (loopAt (bodyOf f119) 0) (⟨[(0, .data (Ty.sl TColumn) columns), (1, .data (Ty.sl (Ty.sl TValue)) rows), (5, .data TInt i0)], []⟩ : St) (thenW (fun s' => ∃ m', m' < m ∧ (L119 columns rows) 0 m' s' K) (exitN 0 (ann119 (behind 0)) K)) =
  (cond (decide (i0 < (rows.length : Int))) ((0 ≤ i0) ∧ (i0 < (rows.length : Int)) ∧ (Sm (Ty.sl TColumn) columns) ∧ (Sm (Ty.sl TValue) (nth (t := (Ty.sl TValue)) rows i0)) ∧ cond (!(M.rowFits columns (nth (t := (Ty.sl TValue)) rows i0))) (K .ret (⟨[(4, .data Ty.bool false)], []⟩ : St)) ((∃ m_, m_ < m ∧ (L119 columns rows) 0 m_ (⟨[(0, .data (Ty.sl TColumn) columns), (1, .data (Ty.sl (Ty.sl TValue)) rows), (5, .data TInt (wrap64 (i0 + (1 : Int))))], []⟩ : St) K))) (K (.exit 0) (⟨[(0, .data (Ty.sl TColumn) columns)], []⟩ : St))) := by kernel_rfl
theorem con119_ok : ConOk P 119 c119 := by
  refine con_okR (fn := f119) (code := bodyOf f119) (tab_ok tab_check cmp_check) consOk119 mixed func119 rfl rfl fun args hp K h0 => ?_
  obtain ⟨a0, a1, rfl, rfl, h1⟩ := args2_elim h0
  obtain ⟨columns, rfl, h2⟩ := withD_elim h1
  obtain ⟨rows, rfl, h3⟩ := withD_elim h2
  obtain ⟨h_columns, h_rows, hK⟩ := h3
  have h : ok (F.spec_RowsOk columns rows) (fun r => K (.data Ty.bool r) []) := ok_of_eq (F.spec_RowsOk_eq columns rows h_columns h_rows) hK
  refine ⟨⟨show (2 : Nat) ≤ 21 by decide, show (2 : Nat) ≤ 1000000 by decide⟩, ann119, (L119 columns rows), (.dat Ty.bool), (loopsN1 (i0 := 0) (by kernel_rfl) ?_), ?_⟩
  · clear h
    intro m_ s_ K_ h
    obtain ⟨hc0, i0, v0, rfl, hl0, rfl, hv0, h⟩ := (show LP119_0 columns rows m_ s_ K_ from h)
    rw [lvc119_0 columns rows i0 v0 _ K_]
    exact (loopE_step (t := (Ty.sl TValue)) hl0 h (fun ht0 h => ⟨hl0, ⟨ht0, ⟨h_columns, ⟨(sm_nth h_rows i0), (ok_cond h (fun b_9 h => (have h := ok_ret h; h)) (fun b_9 h => (loopE_next (t := (Ty.sl TValue)) (fun m hm => (show LP119_0 columns rows m _ _ from ⟨hc0, hm⟩)) () rfl hl0 ht0 (sm_len h_rows) trivial (have h := ok_ret h; h))))⟩⟩⟩⟩) (fun h => (h trivial)))
  · rw [vc119 columns rows K]
    exact (loopE_start (t := (Ty.sl TValue)) (fun m hm => ⟨trivial, hm⟩) () rfl trivial (ok_then h (fun v0 h hv0 => ⟨h_columns, (have h := ok_ret h; h)⟩) (fun q0 h => (have h := ok_ret h; h))))

/-! 82: loop.example/tablehouse/spec.TablesOk -/
def c82 : Con := ⟨[.dat (Ty.sl TTable)], fun args hp K => args1 (fun a0 => withD (Ty.sl TTable) a0 fun tables => (Sm (Ty.sl TTable) tables) ∧ K (.data Ty.bool (M.tablesOk tables)) []) args hp, .plain⟩
def cons82 : Cons := [(119, c119)]
def inl82 : List (Nat × Inl) := []
@[reducible] def C82 : Ctx := ⟨tab, fun t => memN t cmps, cons82, 34, inl82, 0, false⟩
theorem consOk82 : ConsOk P C82 := by
  refine consOk_cons (enter_ok (fn := f119) func119 (by kernel_rfl) rfl) con119_ok ?_
  exact consOk_nil
def ann82 : Nat → List Dir
  | 0 => [.keep [0]]
  | 1 => [.keep [0, 3]]
  | 2 => [.keep [0, 3, 7]]
  | 3 => [.keep [0, 3]]
  | 4 => [.keep [0, 3, 30]]
  | 5 => [.keep [2]]
  | 6 => [.keep [2]]
  | 100000 => [.keep [0]]
  | _ => []
@[reducible] def LP82_0 (tables : (List (TTable).D)) (m : Nat) (st_ : St) (K : X → St → Prop) : Prop := (True) ∧ LoopE (t := TTable) (fun (i0 : Int) (v0 : Unit) => (⟨[(0, .data (Ty.sl TTable) tables), (3, .data TInt i0)], []⟩ : St)) tables (F.spec_TablesOk_l0 tables) (fun v0 : Unit => True) (outD (fun v0 : Unit => True → K (.exit 0) (⟨[(0, .data (Ty.sl TTable) tables)], []⟩ : St)) (fun q0 : Unit => K .ret (⟨[(2, .data Ty.bool false)], []⟩ : St))) m st_
def L82 (tables : (List (TTable).D)) : Loops := fun id m st_ K => match id with
  | 0 => LP82_0 tables m st_ K
  | _ => False
theorem vc82 (tables : (List (TTable).D)) (K : AV → Hp → Prop) : awp C82 (L82 tables) ann82 (bodyOf f82) ⟨argEnv 0 [.data (Ty.sl TTable) tables], []⟩ (outK tab false f82.results.toList (hasBox []) (resK (.dat Ty.bool) K)) =
  ((∃ m_, (True) ∧ LoopE (t := TTable) (fun (i0 : Int) (v0 : Unit) => (⟨[(0, .data (Ty.sl TTable) tables), (3, .data TInt i0)], []⟩ : St)) tables (F.spec_TablesOk_l0 tables) (fun v0 : Unit => True) (outD (fun v0 : Unit => True → K (.data Ty.bool (decide ((tables.length : Int) ≤ (3 : Int)))) []) (fun q0 : Unit => K (.data Ty.bool false) [])) m_ (⟨[(0, .data (Ty.sl TTable) tables), (3, .data TInt (0 : Int))], []⟩ : St))) := by kernel_rfl
theorem lvc82_0 (tables : (List (TTable).D))  (i0 : Int) (v0 : Unit) (m : Nat) (K : X → St → Prop) : awp C82 (L82 tables) ann82 (loopAt (bodyOf f82) 0) (⟨[(0, .data (Ty.sl TTable) tables), (3, .data TInt i0)], []⟩ : St) (thenW (fun s' => ∃ m', m' < m ∧ (L82 tables) 0 m' s' K) (exitN 0 (ann82 (behind 0)) K)) =
  (cond (decide (i0 < (tables.length : Int))) ((0 ≤ i0) ∧ (i0 < (tables.length : Int)) ∧ cond ((decide ((6 : Int) < ((((nth (t := TTable) tables i0).2).1).length : Int))) == false) ((0 ≤ i0) ∧ (i0 < (tables.length : Int)) ∧ (0 ≤ i0) ∧ (i0 < (tables.length : Int)) ∧ (Sm (Ty.sl TColumn) ((nth (t := TTable) tables i0).1)) ∧ (Sm (Ty.sl (Ty.sl TValue)) (((nth (t := TTable) tables i0).2).1)) ∧ cond (!(M.rowsOk ((nth (t := TTable) tables i0).1) (((nth (t := TTable) tables i0).2).1))) (K .ret (⟨[(2, .data Ty.bool false)], []⟩ : St)) ((∃ m_, m_ < m ∧ (L82 tables) 0 m_ (⟨[(0, .data (Ty.sl TTable) tables), (3, .data TInt (wrap64 (i0 + (1 : Int))))], []⟩ : St) K))) (K .ret (⟨[(2, .data Ty.bool false)], []⟩ : St))) (K (.exit 0) (⟨[(0, .data (Ty.sl TTable) tables)], []⟩ : St))) := by kernel_rfl
theorem con82_ok : ConOk P 82 c82 := by
  refine con_okR (fn := f82) (code := bodyOf f82) (tab_ok tab_check cmp_check) consOk82 mixed func82 rfl rfl fun args hp K h0 => ?_
  obtain ⟨a0, rfl, rfl, h1⟩ := args1_elim h0
  obtain ⟨tables, rfl, h2⟩ := withD_elim h1
  obtain ⟨h_tables, hK⟩ := h2
  have h : ok (F.spec_TablesOk tables) (fun r => K (.data Ty.bool r) []) := ok_of_eq (F.spec_TablesOk_eq tables h_tables) hK
  refine ⟨⟨show (1 : Nat) ≤ 34 by decide, show (1 : Nat) ≤ 1000000 by decide⟩, ann82, (L82 tables), (.dat Ty.bool), (loopsN1 (i0 := 0) (by kernel_rfl) ?_), ?_⟩
  · clear h
    intro m_ s_ K_ h
    obtain ⟨hc0, i0, v0, rfl, hl0, rfl, hv0, h⟩ := (show LP82_0 tables m_ s_ K_ from h)
    rw [lvc82_0 tables i0 v0 _ K_]
    exact (loopE_step (t := TTable) hl0 h (fun ht0 h => ⟨hl0, ⟨ht0, (ok_cond h (fun b_11 h => ⟨hl0, ⟨ht0, ⟨hl0, ⟨ht0, ⟨(sm_nth h_tables i0).1, ⟨(sm_nth h_tables i0).2.1, (ok_cond h (fun b_12 h => (have h := ok_ret h; h)) (fun b_12 h => (loopE_next (t := TTable) (fun m hm => (show LP82_0 tables m _ _ from ⟨hc0, hm⟩)) () rfl hl0 ht0 (sm_len h_tables) trivial (have h := ok_ret h; h))))⟩⟩⟩⟩⟩⟩) (fun b_11 h => (have h := ok_ret h; h)))⟩⟩) (fun h => (h trivial)))
  · rw [vc82 tables K]
    exact (loopE_start (t := TTable) (fun m hm => ⟨trivial, hm⟩) () rfl trivial (ok_then h (fun v0 h hv0 => (have h := ok_ret h; h)) (fun q0 h => (have h := ok_ret h; h))))

/-! 127: loop.example/tablehouse/spec.l4Step -/
def c127 : Con := ⟨[.dat (Ty.sl TColumn), .mv, .dat TPart], fun args hp K => hpN 0 false TInt (fun kinds => args3 (fun a0 a1 a2 => withD (Ty.sl TColumn) a0 fun columns => withO 0 a1 (withD TPart a2 fun p => (Sm (Ty.sl TColumn) columns) ∧ (Sm (Ty.sl TInt) kinds) ∧ (Sm TPart p) ∧ (kinds.length ≤ 1000) ∧ (∀ r : (List Int) × Bool, r = (M.l4Step columns kinds p) → K (.tup [.own 0 none, .data Ty.bool r.2]) [(0, .arr false TInt r.1)]))) args []) hp, .mv⟩
def cons127 : Cons := [(62, c62), (157, c157)]
def inl127 : List (Nat × Inl) := []
@[reducible] def C127 : Ctx := ⟨tab, fun t => memN t cmps, cons127, 191, inl127, 0, true⟩
theorem consOk127 : ConsOk P C127 := by
  refine consOk_cons (enter_ok (fn := f62) func62 (by kernel_rfl) rfl) con62_ok ?_
  refine consOk_cons (enter_ok (fn := f157) func157 (by kernel_rfl) rfl) con157_ok ?_
  exact consOk_nil
def ann127 : Nat → List Dir
  | 0 => [.fixRow 5 TPart, .keep [0, 1, 5]]
  | 1 => [.keep [0, 1, 5, 8]]
  | 2 => [.keep [0, 1, 5, 8, 37]]
  | 3 => [.keep [6, 7]]
  | 4 => [.keep [0, 1, 5, 8, 40]]
  | 5 => [.keep [0, 1, 5, 8, 40, 41]]
  | 6 => [.keep [1, 5, 52]]
  | 7 => [.keep [6, 7]]
  | 8 => [.keep [6, 7]]
  | 9 => [.keep [0, 1, 5, 8, 40, 60]]
  | 10 => [.keep [0, 1, 5, 68]]
  | 11 => [.keep [6, 7]]
  | 12 => [.keep [6, 7]]
  | 13 => [.keep [1, 5, 8, 40, 79]]
  | 14 => [.keep [1, 8, 9]]
  | 15 => [.keep [6, 7]]
  | 16 => [.keep [1, 5, 8, 40, 107]]
  | 17 => [.keep [1, 8, 10]]
  | 18 => [.keep [6, 7]]
  | 19 => [.keep [1, 8, 40, 137]]
  | 20 => [.keep [1, 8, 40, 137]]
  | 21 => [.keep [1, 8, 11]]
  | 22 => [.keep [6, 7]]
  | 23 => [.keep [1, 8, 40, 166]]
  | 24 => [.keep [6, 7]]
  | 25 => [.keep [1, 8, 179]]
  | 26 => [.keep [6, 7]]
  | 27 => [.keep [6, 7]]
  | _ => []
def L127 (columns : (List (TColumn).D)) (kinds : (List Int)) (p : (TPart).D) : Loops := fun id m st_ K => match id with
  | _ => False
@[reducible] def S127_0 (columns : (List (TColumn).D)) (kinds : (List Int)) (p : (TPart).D) (K : AV → Hp → Prop) : Prop := (0 ≤ (0 : Int)) ∧ ((0 : Int) ≤ (maxI (wrap64 ((kinds.length : Int) - (2 : Int))) (0 : Int))) ∧ ((maxI (wrap64 ((kinds.length : Int) - (2 : Int))) (0 : Int)) ≤ (kinds.length : Int)) ∧ ((maxI (wrap64 ((kinds.length : Int) - (2 : Int))) (0 : Int)) = (maxI (wrap64 ((kinds.length : Int) - (2 : Int))) (0 : Int))) ∧ ((0 : Int) = 0) ∧ (((maxI (wrap64 ((kinds.length : Int) - (2 : Int))) (0 : Int)).toNat + [(1 : Int)].length) * 8 ≤ lim) ∧ K (.tup [.own 0 none, .data Ty.bool false]) [(0, .arr false TInt (kinds.take (maxI (wrap64 ((kinds.length : Int) - (2 : Int))) (0 : Int)).toNat ++ [(1 : Int)]))]
@[reducible] def S127_1 (columns : (List (TColumn).D)) (kinds : (List Int)) (p : (TPart).D) (K : AV → Hp → Prop) : Prop := (0 ≤ (0 : Int)) ∧ ((0 : Int) ≤ (maxI (wrap64 ((kinds.length : Int) - (2 : Int))) (0 : Int))) ∧ ((maxI (wrap64 ((kinds.length : Int) - (2 : Int))) (0 : Int)) ≤ (kinds.length : Int)) ∧ ((maxI (wrap64 ((kinds.length : Int) - (2 : Int))) (0 : Int)) = (maxI (wrap64 ((kinds.length : Int) - (2 : Int))) (0 : Int))) ∧ ((0 : Int) = 0) ∧ (((maxI (wrap64 ((kinds.length : Int) - (2 : Int))) (0 : Int)).toNat + [(3 : Int)].length) * 8 ≤ lim) ∧ K (.tup [.own 0 none, .data Ty.bool false]) [(0, .arr false TInt (kinds.take (maxI (wrap64 ((kinds.length : Int) - (2 : Int))) (0 : Int)).toNat ++ [(3 : Int)]))]
@[reducible] def S127_2 (columns : (List (TColumn).D)) (kinds : (List Int)) (p : (TPart).D) (K : AV → Hp → Prop) : Prop := (S127_1 columns kinds p K)
@[reducible] def S127_3 (columns : (List (TColumn).D)) (kinds : (List Int)) (p : (TPart).D) (K : AV → Hp → Prop) : Prop := cond ((decide ((1 : Int) < (kinds.length : Int))) == true) ((0 ≤ wrap64 ((kinds.length : Int) - (1 : Int))) ∧ (wrap64 ((kinds.length : Int) - (1 : Int)) < (kinds.length : Int)) ∧ cond ((decide ((nth (t := TInt) kinds (wrap64 ((kinds.length : Int) - (1 : Int)))) = (3 : Int))) == true) ((0 ≤ wrap64 ((kinds.length : Int) - (2 : Int))) ∧ (wrap64 ((kinds.length : Int) - (2 : Int)) < (kinds.length : Int)) ∧ (0 ≤ (0 : Int)) ∧ ((0 : Int) ≤ (maxI (wrap64 ((kinds.length : Int) - (2 : Int))) (0 : Int))) ∧ ((maxI (wrap64 ((kinds.length : Int) - (2 : Int))) (0 : Int)) ≤ (kinds.length : Int)) ∧ ((maxI (wrap64 ((kinds.length : Int) - (2 : Int))) (0 : Int)) = (maxI (wrap64 ((kinds.length : Int) - (2 : Int))) (0 : Int))) ∧ ((0 : Int) = 0) ∧ (((maxI (wrap64 ((kinds.length : Int) - (2 : Int))) (0 : Int)).toNat + [(3 : Int)].length) * 8 ≤ lim) ∧ K (.tup [.own 0 none, .data Ty.bool (decide ((nth (t := TInt) kinds (wrap64 ((kinds.length : Int) - (2 : Int)))) = (3 : Int)))]) [(0, .arr false TInt (kinds.take (maxI (wrap64 ((kinds.length : Int) - (2 : Int))) (0 : Int)).toNat ++ [(3 : Int)]))]) ((S127_2 columns kinds p K))) ((S127_2 columns kinds p K))
@[reducible] def S127_4 (columns : (List (TColumn).D)) (kinds : (List Int)) (p : (TPart).D) (K : AV → Hp → Prop) : Prop := cond (decide (p.1 = (7 : Int))) (cond ((decide ((0 : Int) < (kinds.length : Int))) == true) ((0 ≤ wrap64 ((kinds.length : Int) - (1 : Int))) ∧ (wrap64 ((kinds.length : Int) - (1 : Int)) < (kinds.length : Int)) ∧ K (.tup [.own 0 none, .data Ty.bool (decide ((nth (t := TInt) kinds (wrap64 ((kinds.length : Int) - (1 : Int)))) = (3 : Int)))]) [(0, .arr false TInt kinds)]) (K (.tup [.own 0 none, .data Ty.bool false]) [(0, .arr false TInt kinds)])) (cond (decide (p.1 = (8 : Int))) ((0 ≤ (0 : Int)) ∧ ((0 : Int) ≤ (maxI (wrap64 ((kinds.length : Int) - (1 : Int))) (0 : Int))) ∧ ((maxI (wrap64 ((kinds.length : Int) - (1 : Int))) (0 : Int)) ≤ (kinds.length : Int)) ∧ ((maxI (wrap64 ((kinds.length : Int) - (1 : Int))) (0 : Int)) = (maxI (wrap64 ((kinds.length : Int) - (1 : Int))) (0 : Int))) ∧ ((0 : Int) = 0) ∧ (((maxI (wrap64 ((kinds.length : Int) - (1 : Int))) (0 : Int)).toNat + [(3 : Int)].length) * 8 ≤ lim) ∧ K (.tup [.own 0 none, .data Ty.bool (decide ((0 : Int) < (kinds.length : Int)))]) [(0, .arr false TInt (kinds.take (maxI (wrap64 ((kinds.length : Int) - (1 : Int))) (0 : Int)).toNat ++ [(3 : Int)]))]) (K (.tup [.own 0 none, .data Ty.bool false]) [(0, .arr false TInt kinds)]))
@[reducible] def S127_5 (columns : (List (TColumn).D)) (kinds : (List Int)) (p : (TPart).D) (K : AV → Hp → Prop) : Prop := cond (decide (p.1 = (1 : Int))) ((Sm TValue p.2.2.1) ∧ cond ((!(M.valueOk p.2.2.1)) == false) (cond (decide (p.2.2.1.1 = (0 : Int))) (K (.tup [.own 0 none, .data Ty.bool false]) [(0, .arr false TInt kinds)]) (((kinds.length + [p.2.2.1.1].length) * 8 ≤ lim) ∧ K (.tup [.own 0 none, .data Ty.bool true]) [(0, .arr false TInt (kinds ++ [p.2.2.1.1]))])) (K (.tup [.own 0 none, .data Ty.bool false]) [(0, .arr false TInt kinds)])) (cond (decide (p.1 = (2 : Int))) (cond (!(M.inR p.2.1 (0 : Int) (wrap64 ((columns.length : Int) - (1 : Int))))) (K (.tup [.own 0 none, .data Ty.bool false]) [(0, .arr false TInt kinds)]) ((0 ≤ p.2.1) ∧ (p.2.1 < (columns.length : Int)) ∧ ((kinds.length + [(nth (t := TColumn) columns p.2.1).1].length) * 8 ≤ lim) ∧ K (.tup [.own 0 none, .data Ty.bool true]) [(0, .arr false TInt (kinds ++ [(nth (t := TColumn) columns p.2.1).1]))])) (cond (decide (p.1 = (3 : Int))) (cond ((decide ((1 : Int) < (kinds.length : Int))) == true) ((0 ≤ wrap64 ((kinds.length : Int) - (1 : Int))) ∧ (wrap64 ((kinds.length : Int) - (1 : Int)) < (kinds.length : Int)) ∧ cond ((decide ((nth (t := TInt) kinds (wrap64 ((kinds.length : Int) - (1 : Int)))) = (1 : Int))) == true) ((0 ≤ wrap64 ((kinds.length : Int) - (2 : Int))) ∧ (wrap64 ((kinds.length : Int) - (2 : Int)) < (kinds.length : Int)) ∧ (0 ≤ (0 : Int)) ∧ ((0 : Int) ≤ (maxI (wrap64 ((kinds.length : Int) - (2 : Int))) (0 : Int))) ∧ ((maxI (wrap64 ((kinds.length : Int) - (2 : Int))) (0 : Int)) ≤ (kinds.length : Int)) ∧ ((maxI (wrap64 ((kinds.length : Int) - (2 : Int))) (0 : Int)) = (maxI (wrap64 ((kinds.length : Int) - (2 : Int))) (0 : Int))) ∧ ((0 : Int) = 0) ∧ (((maxI (wrap64 ((kinds.length : Int) - (2 : Int))) (0 : Int)).toNat + [(1 : Int)].length) * 8 ≤ lim) ∧ K (.tup [.own 0 none, .data Ty.bool (decide ((nth (t := TInt) kinds (wrap64 ((kinds.length : Int) - (2 : Int)))) = (1 : Int)))]) [(0, .arr false TInt (kinds.take (maxI (wrap64 ((kinds.length : Int) - (2 : Int))) (0 : Int)).toNat ++ [(1 : Int)]))]) ((S127_0 columns kinds p K))) ((S127_0 columns kinds p K))) (cond (decide (p.1 = (4 : Int))) (cond ((decide ((1 : Int) < (kinds.length : Int))) == true) ((0 ≤ wrap64 ((kinds.length : Int) - (1 : Int))) ∧ (wrap64 ((kinds.length : Int) - (1 : Int)) < (kinds.length : Int)) ∧ (0 ≤ wrap64 ((kinds.length : Int) - (2 : Int))) ∧ (wrap64 ((kinds.length : Int) - (2 : Int)) < (kinds.length : Int)) ∧ cond ((decide ((nth (t := TInt) kinds (wrap64 ((kinds.length : Int) - (1 : Int)))) = (nth (t := TInt) kinds (wrap64 ((kinds.length : Int) - (2 : Int)))))) == true) ((0 ≤ (0 : Int)) ∧ ((0 : Int) ≤ (maxI (wrap64 ((kinds.length : Int) - (2 : Int))) (0 : Int))) ∧ ((maxI (wrap64 ((kinds.length : Int) - (2 : Int))) (0 : Int)) ≤ (kinds.length : Int)) ∧ ((maxI (wrap64 ((kinds.length : Int) - (2 : Int))) (0 : Int)) = (maxI (wrap64 ((kinds.length : Int) - (2 : Int))) (0 : Int))) ∧ ((0 : Int) = 0) ∧ (((maxI (wrap64 ((kinds.length : Int) - (2 : Int))) (0 : Int)).toNat + [(3 : Int)].length) * 8 ≤ lim) ∧ K (.tup [.own 0 none, .data Ty.bool (M.inR p.2.1 (1 : Int) (4 : Int))]) [(0, .arr false TInt (kinds.take (maxI (wrap64 ((kinds.length : Int) - (2 : Int))) (0 : Int)).toNat ++ [(3 : Int)]))]) ((S127_2 columns kinds p K))) ((S127_2 columns kinds p K))) (cond (decide (p.1 = (5 : Int))) (cond (decide (p.1 = (5 : Int))) ((S127_3 columns kinds p K)) ((S127_4 columns kinds p K))) (cond (decide (p.1 = (6 : Int))) ((S127_3 columns kinds p K)) ((S127_4 columns kinds p K)))))))
@[reducible] def S127_6 (columns : (List (TColumn).D)) (kinds : (List Int)) (p : (TPart).D) (K : AV → Hp → Prop) : Prop := cond ((!decide (p.1 = (2 : Int))) == true) (cond ((!decide (p.1 = (4 : Int))) == true) (cond (!decide (p.2.1 = (0 : Int))) (K (.tup [.own 0 none, .data Ty.bool false]) [(0, .arr false TInt kinds)]) ((S127_5 columns kinds p K))) ((S127_5 columns kinds p K))) ((S127_5 columns kinds p K))
theorem vc127 (columns : (List (TColumn).D)) (kinds : (List Int)) (p : (TPart).D) (K : AV → Hp → Prop) : awp C127 (L127 columns kinds p) ann127 (bodyOf f127) ⟨argEnv 0 [.data (Ty.sl TColumn) columns, .own 0 none, .data TPart p], [(0, .arr false TInt kinds)]⟩ (outK tab true f127.results.toList (hasBox [(0, .arr false TInt kinds)]) (resK .raw K)) =
  (cond ((!decide (p.1 = (1 : Int))) == true) (cond ((!(Ty.beq TValue p.2.2.1 ((0 : Int), ((0 : Int), ((⟨#[]⟩ : ByteArray), ()))))) == false) ((S127_6 columns kinds p K)) (K (.tup [.own 0 none, .data Ty.bool false]) [(0, .arr false TInt kinds)])) ((S127_6 columns kinds p K))) := by kernel_rfl
theorem con127_ok : ConOk P 127 c127 := by
  refine con_okR (fn := f127) (code := bodyOf f127) (tab_ok tab_check cmp_check) consOk127 mixed func127 rfl rfl fun args hp K h0 => ?_
  unfold c127 at h0
  dsimp only at h0
  obtain ⟨kinds, rfl, h00⟩ := hpN_elim (n := 0) (d := false) (t := TInt) h0
  obtain ⟨a0, a1, a2, rfl, _, h1⟩ := args3_elim h00
  obtain ⟨columns, rfl, h2⟩ := withD_elim h1
  obtain ⟨rfl, h3⟩ := withO_elim h2
  obtain ⟨p, rfl, h4⟩ := withD_elim h3
  obtain ⟨h_columns, h_kinds, h_p, p0, hK⟩ := h4
  have h : ok (F.spec_l4Step columns kinds p) (fun r => K (.tup [.own 0 none, .data Ty.bool r.2]) [(0, .arr false TInt r.1)]) := ok_of_eq (F.spec_l4Step_eq columns kinds p h_columns h_kinds h_p p0) (hK _ rfl)
  refine ⟨⟨show (3 : Nat) ≤ 191 by decide, show (3 : Nat) ≤ 1000000 by decide⟩, ann127, (L127 columns kinds p), .raw, (no_loops (by kernel_rfl)), ?_⟩
  · rw [vc127 columns kinds p K]
    exact (ok_cond h (fun b_1 h => (ok_cond h (fun b_2 h => (ok_cond h (fun b_3 h => (ok_cond h (fun b_4 h => (ok_cond h (fun b_5 h => (have h := ok_ret h; h)) (fun b_5 h => (cond_f (bnt (bet b_1)) (cond_f (bnt (bet b_3)) (ok_cond h (fun b_11 h => (ok_cond h (fun b_12 h => ⟨(ok_guard h).1, have h := (ok_guard h).2; ⟨(ok_guard h).1, have h := (ok_guard h).2; (ok_cond h (fun b_15 h => ⟨(ok_guard h).1, have h := (ok_guard h).2; ⟨(ok_guard h).1, have h := (ok_guard h).2; ⟨(Int.natCast_nonneg 0), ⟨(ok_guard h).1, have h := (ok_guard h).2; ⟨(ok_guard h).1, have h := (ok_guard h).2; ⟨rfl, ⟨rfl, ⟨(ok_guard h).1, have h := (ok_guard h).2; (have h := ok_ret h; h)⟩⟩⟩⟩⟩⟩⟩⟩) (fun b_15 h => ⟨(Int.natCast_nonneg 0), ⟨(ok_guard h).1, have h := (ok_guard h).2; ⟨(ok_guard h).1, have h := (ok_guard h).2; ⟨rfl, ⟨rfl, ⟨(ok_guard h).1, have h := (ok_guard h).2; (have h := ok_ret h; h)⟩⟩⟩⟩⟩⟩))⟩⟩) (fun b_12 h => ⟨(Int.natCast_nonneg 0), ⟨(ok_guard h).1, have h := (ok_guard h).2; ⟨(ok_guard h).1, have h := (ok_guard h).2; ⟨rfl, ⟨rfl, ⟨(ok_guard h).1, have h := (ok_guard h).2; (have h := ok_ret h; h)⟩⟩⟩⟩⟩⟩))) (fun b_11 h => (cond_f (bnt (bet b_4)) (ok_cond h (fun b_43 h => (cond_t b_43 (ok_cond h (fun b_45 h => ⟨(ok_guard h).1, have h := (ok_guard h).2; ⟨(ok_guard h).1, have h := (ok_guard h).2; (ok_cond h (fun b_48 h => ⟨(ok_guard h).1, have h := (ok_guard h).2; ⟨(ok_guard h).1, have h := (ok_guard h).2; ⟨(Int.natCast_nonneg 0), ⟨(ok_guard h).1, have h := (ok_guard h).2; ⟨(ok_guard h).1, have h := (ok_guard h).2; ⟨rfl, ⟨rfl, ⟨(ok_guard h).1, have h := (ok_guard h).2; (have h := ok_ret h; h)⟩⟩⟩⟩⟩⟩⟩⟩) (fun b_48 h => ⟨(Int.natCast_nonneg 0), ⟨(ok_guard h).1, have h := (ok_guard h).2; ⟨(ok_guard h).1, have h := (ok_guard h).2; ⟨rfl, ⟨rfl, ⟨(ok_guard h).1, have h := (ok_guard h).2; (have h := ok_ret h; h)⟩⟩⟩⟩⟩⟩))⟩⟩) (fun b_45 h => ⟨(Int.natCast_nonneg 0), ⟨(ok_guard h).1, have h := (ok_guard h).2; ⟨(ok_guard h).1, have h := (ok_guard h).2; ⟨rfl, ⟨rfl, ⟨(ok_guard h).1, have h := (ok_guard h).2; (have h := ok_ret h; h)⟩⟩⟩⟩⟩⟩)))) (fun b_43 h => (ok_cond h (fun b_68 h => (ok_cond h (fun b_69 h => ⟨(ok_guard h).1, have h := (ok_guard h).2; ⟨(ok_guard h).1, have h := (ok_guard h).2; (ok_cond h (fun b_72 h => ⟨(ok_guard h).1, have h := (ok_guard h).2; ⟨(ok_guard h).1, have h := (ok_guard h).2; ⟨(Int.natCast_nonneg 0), ⟨(ok_guard h).1, have h := (ok_guard h).2; ⟨(ok_guard h).1, have h := (ok_guard h).2; ⟨rfl, ⟨rfl, ⟨(ok_guard h).1, have h := (ok_guard h).2; (have h := ok_ret h; h)⟩⟩⟩⟩⟩⟩⟩⟩) (fun b_72 h => ⟨(Int.natCast_nonneg 0), ⟨(ok_guard h).1, have h := (ok_guard h).2; ⟨(ok_guard h).1, have h := (ok_guard h).2; ⟨rfl, ⟨rfl, ⟨(ok_guard h).1, have h := (ok_guard h).2; (have h := ok_ret h; h)⟩⟩⟩⟩⟩⟩))⟩⟩) (fun b_69 h => ⟨(Int.natCast_nonneg 0), ⟨(ok_guard h).1, have h := (ok_guard h).2; ⟨(ok_guard h).1, have h := (ok_guard h).2; ⟨rfl, ⟨rfl, ⟨(ok_guard h).1, have h := (ok_guard h).2; (have h := ok_ret h; h)⟩⟩⟩⟩⟩⟩))) (fun b_68 h => (ok_cond h (fun b_84 h => (ok_cond h (fun b_85 h => ⟨(ok_guard h).1, have h := (ok_guard h).2; ⟨(ok_guard h).1, have h := (ok_guard h).2; (have h := ok_ret h; h)⟩⟩) (fun b_85 h => (have h := ok_ret h; h)))) (fun b_84 h => (ok_cond h (fun b_88 h => ⟨(Int.natCast_nonneg 0), ⟨(ok_guard h).1, have h := (ok_guard h).2; ⟨(ok_guard h).1, have h := (ok_guard h).2; ⟨rfl, ⟨rfl, ⟨(ok_guard h).1, have h := (ok_guard h).2; (have h := ok_ret h; h)⟩⟩⟩⟩⟩⟩) (fun b_88 h => (have h := ok_ret h; h))))))))))))))))) (fun b_4 h => (cond_f (bnt (bet b_1)) (cond_f (bnt (bet b_3)) (cond_f (dec_ne (bnf (bef b_4)) (by decide)) (cond_t (bnf (bef b_4)) (ok_cond h (fun b_114 h => ⟨(ok_guard h).1, have h := (ok_guard h).2; ⟨(ok_guard h).1, have h := (ok_guard h).2; ⟨(ok_guard h).1, have h := (ok_guard h).2; ⟨(ok_guard h).1, have h := (ok_guard h).2; (ok_cond h (fun b_119 h => ⟨(Int.natCast_nonneg 0), ⟨(ok_guard h).1, have h := (ok_guard h).2; ⟨(ok_guard h).1, have h := (ok_guard h).2; ⟨rfl, ⟨rfl, ⟨(ok_guard h).1, have h := (ok_guard h).2; (have h := ok_ret h; h)⟩⟩⟩⟩⟩⟩) (fun b_119 h => ⟨(Int.natCast_nonneg 0), ⟨(ok_guard h).1, have h := (ok_guard h).2; ⟨(ok_guard h).1, have h := (ok_guard h).2; ⟨rfl, ⟨rfl, ⟨(ok_guard h).1, have h := (ok_guard h).2; (have h := ok_ret h; h)⟩⟩⟩⟩⟩⟩))⟩⟩⟩⟩) (fun b_114 h => ⟨(Int.natCast_nonneg 0), ⟨(ok_guard h).1, have h := (ok_guard h).2; ⟨(ok_guard h).1, have h := (ok_guard h).2; ⟨rfl, ⟨rfl, ⟨(ok_guard h).1, have h := (ok_guard h).2; (have h := ok_ret h; h)⟩⟩⟩⟩⟩⟩))))))))) (fun b_3 h => (cond_f (bnt (bet b_1)) (cond_t (bnf (bef b_3)) (ok_cond h (fun b_182 h => (have h := ok_ret h; h)) (fun b_182 h => ⟨(inR_lo (bnf b_182)), ⟨(inR_hi (bnf b_182)), ⟨(sm_lim2 h_kinds (sm_one trivial) rfl), (have h := ok_ret h; h)⟩⟩⟩))))))) (fun b_2 h => (have h := ok_ret h; h)))) (fun b_1 h => (cond_t (uet (unt (dec_ne (bnf (bef b_1)) (by decide)))) (cond_t (uet (unt (dec_ne (bnf (bef b_1)) (by decide)))) (ok_cond h (fun b_266 h => (have h := ok_ret h; h)) (fun b_266 h => (cond_t (bnf (bef b_1)) ⟨h_p.2.2.1, (ok_cond h (fun b_268 h => (ok_cond h (fun b_269 h => (have h := ok_ret h; h)) (fun b_269 h => ⟨(sm_lim2 h_kinds (sm_one trivial) rfl), (have h := ok_ret h; h)⟩))) (fun b_268 h => (have h := ok_ret h; h)))⟩)))))))

/-! 95: loop.example/tablehouse/spec.ExprKind -/
def c95 : Con := ⟨[.dat (Ty.sl TColumn), .dat (Ty.sl TPart)], fun args hp K => args2 (fun a0 a1 => withD (Ty.sl TColumn) a0 fun columns => withD (Ty.sl TPart) a1 fun e => (Sm (Ty.sl TColumn) columns) ∧ (Sm (Ty.sl TPart) e) ∧ K (.data TInt (M.exprKind columns e)) []) args hp, .plain⟩
def cons95 : Cons := [(126, c126), (127, c127)]
def inl95 : List (Nat × Inl) := []
@[reducible] def C95 : Ctx := ⟨tab, fun t => memN t cmps, cons95, 46, inl95, 0, false⟩
theorem consOk95 : ConsOk P C95 := by
  refine consOk_cons (enter_ok (fn := f126) func126 (by kernel_rfl) rfl) con126_ok ?_
  refine consOk_cons (enter_ok (fn := f127) func127 (by kernel_rfl) rfl) con127_ok ?_
  exact consOk_nil
def ann95 : Nat → List Dir
  | 0 => [.keep [0, 1]]
  | 1 => [.keep [0, 1, 15]]
  | 2 => [.keep [4]]
  | 3 => [.keep [0, 1, 5]]
  | 4 => [.keep [0, 1, 5, 6]]
  | 5 => [.keep [0, 1, 5, 6, 7]]
  | 6 => [.keep [0, 1, 5, 6, 7, 23]]
  | 7 => [.keep [0, 1, 5, 6, 7]]
  | 8 => [.keep [0, 1, 5, 6, 7]]
  | 9 => [.keep [5, 42]]
  | 10 => [.keep [4]]
  | 11 => [.keep [4]]
  | 100000 => [.keep [5, 6]]
  | _ => []
@[reducible] def LP95_0 (columns : (List (TColumn).D)) (e : (List (TPart).D)) (m : Nat) (st_ : St) (K : X → St → Prop) : Prop := (True) ∧ LoopW (fun v0 : Bool × Int × (List Int) => (⟨[(0, .data (Ty.sl TColumn) columns), (1, .data (Ty.sl TPart) e), (5, .own 16 none), (6, .data Ty.bool v0.1), (7, .data TInt v0.2.1)], [(16, .arr false TInt v0.2.2)]⟩ : St)) (F.spec_ExprKind_l0 columns e) (fun v0 : Bool × Int × (List Int) => True) ((fun e0 : Bool × (List Int) => True → K (.exit 0) (⟨[(5, .own 16 none), (6, .data Ty.bool e0.1)], [(16, .arr false TInt e0.2)]⟩ : St))) m st_
def L95 (columns : (List (TColumn).D)) (e : (List (TPart).D)) : Loops := fun id m st_ K => match id with
  | 0 => LP95_0 columns e m st_ K
  | _ => False
theorem vc95 (columns : (List (TColumn).D)) (e : (List (TPart).D)) (K : AV → Hp → Prop) : awp C95 (L95 columns e) ann95 (bodyOf f95) ⟨argEnv 0 [.data (Ty.sl TColumn) columns, .data (Ty.sl TPart) e], []⟩ (outK tab false f95.results.toList (hasBox []) (resK (.dat TInt) K)) =
  ((Sm (Ty.sl TColumn) columns) ∧ cond ((!(M.columnsOk columns)) == false) (cond (decide ((12 : Int) < (e.length : Int))) (K (.data TInt (-1 : Int)) []) ((∃ m_, (True) ∧ LoopW (fun v0 : Bool × Int × (List Int) => (⟨[(0, .data (Ty.sl TColumn) columns), (1, .data (Ty.sl TPart) e), (5, .own 16 none), (6, .data Ty.bool v0.1), (7, .data TInt v0.2.1)], [(16, .arr false TInt v0.2.2)]⟩ : St)) (F.spec_ExprKind_l0 columns e) (fun v0 : Bool × Int × (List Int) => True) ((fun e0 : Bool × (List Int) => True → cond ((!e0.1) == false) (cond (!decide ((e0.2.length : Int) = (1 : Int))) (K (.data TInt (-1 : Int)) []) ((0 ≤ (0 : Int)) ∧ ((0 : Int) < (e0.2.length : Int)) ∧ K (.data TInt (nth (t := TInt) e0.2 (0 : Int))) [])) (K (.data TInt (-1 : Int)) []))) m_ (⟨[(0, .data (Ty.sl TColumn) columns), (1, .data (Ty.sl TPart) e), (5, .own 16 none), (6, .data Ty.bool true), (7, .data TInt (0 : Int))], [(16, .arr false TInt [])]⟩ : St)))) (K (.data TInt (-1 : Int)) [])) := by kernel_rfl
theorem lvc95_0 (columns : (List (TColumn).D)) (e : (List (TPart).D))  (v0 : Bool × Int × (List Int)) (m : Nat) (K : X → St → Prop) : awp C95 (L95 columns e) ann95 (loopAt (bodyOf f95) 0) (⟨[(0, .data (Ty.sl TColumn) columns), (1, .data (Ty.sl TPart) e), (5, .own 16 none), (6, .data Ty.bool v0.1), (7, .data TInt v0.2.1)], [(16, .arr false TInt v0.2.2)]⟩ : St) (thenW (fun s' => ∃ m', m' < m ∧ (L95 columns e) 0 m' s' K) (exitN 0 (ann95 (behind 0)) K)) =
  (cond ((decide (v0.2.1 < (e.length : Int))) == true) (cond v0.1 ((0 ≤ v0.2.1) ∧ (v0.2.1 < (e.length : Int)) ∧ (Sm (Ty.sl TColumn) columns) ∧ (Sm (Ty.sl TInt) v0.2.2) ∧ (Sm TPart (nth (t := TPart) e v0.2.1)) ∧ (v0.2.2.length ≤ 1000) ∧ (∀ r_8_6 : (List Int) × Bool, r_8_6 = (M.l4Step columns v0.2.2 (nth (t := TPart) e v0.2.1)) → (∃ m_, m_ < m ∧ (L95 columns e) 0 m_ (⟨[(0, .data (Ty.sl TColumn) columns), (1, .data (Ty.sl TPart) e), (5, .own 16 none), (6, .data Ty.bool r_8_6.2), (7, .data TInt (wrap64 (v0.2.1 + (1 : Int))))], [(16, .arr false TInt r_8_6.1)]⟩ : St) K))) (K (.exit 0) (⟨[(5, .own 16 none), (6, .data Ty.bool v0.1)], [(16, .arr false TInt v0.2.2)]⟩ : St))) (K (.exit 0) (⟨[(5, .own 16 none), (6, .data Ty.bool v0.1)], [(16, .arr false TInt v0.2.2)]⟩ : St))) := by kernel_rfl
theorem con95_ok : ConOk P 95 c95 := by
  refine con_okR (fn := f95) (code := bodyOf f95) (tab_ok tab_check cmp_check) consOk95 mixed func95 rfl rfl fun args hp K h0 => ?_
  obtain ⟨a0, a1, rfl, rfl, h1⟩ := args2_elim h0
  obtain ⟨columns, rfl, h2⟩ := withD_elim h1
  obtain ⟨e, rfl, h3⟩ := withD_elim h2
  obtain ⟨h_columns, h_e, hK⟩ := h3
  have h : ok (F.spec_ExprKind columns e) (fun r => K (.data TInt r) []) := ok_of_eq (F.spec_ExprKind_eq columns e h_columns h_e) hK
  refine ⟨⟨show (2 : Nat) ≤ 46 by decide, show (2 : Nat) ≤ 1000000 by decide⟩, ann95, (L95 columns e), (.dat TInt), (loopsN1 (i0 := 0) (by kernel_rfl) ?_), ?_⟩
  · clear h
    intro m_ s_ K_ h
    obtain ⟨hc0, v0, rfl, hv0, h⟩ := (show LP95_0 columns e m_ s_ K_ from h)
    rw [lvc95_0 columns e v0 _ K_]
    exact (loopW_step h (fun m1 hm0 h => (ok_cond h (fun b_11 h => (ok_cond h (fun b_12 h => ⟨(ok_guard h).1, have h := (ok_guard h).2; ⟨(ok_guard h).1, have h := (ok_guard h).2; ⟨h_columns, ⟨(ok_guard h).1, have h := (ok_guard h).2; ⟨(sm_nth h_e v0.2.1), ⟨(ok_guard h).1, have h := (ok_guard h).2; (fun r_8_6 e_r_8_6 => have h := ok_let h r_8_6 e_r_8_6; (loopW_next (fun m hm => (show LP95_0 columns e m _ _ from ⟨hc0, hm⟩)) hm0 (r_8_6.2, wrap64 (v0.2.1 + (1 : Int)), r_8_6.1) rfl trivial (have h := ok_ret h; h)))⟩⟩⟩⟩⟩⟩) (fun b_12 h => ((have h := ok_ret h; h) trivial)))) (fun b_11 h => ((have h := ok_ret h; h) trivial)))))
  · rw [vc95 columns e K]
    exact ⟨h_columns, (ok_cond h (fun b_1 h => (ok_cond h (fun b_2 h => (have h := ok_ret h; h)) (fun b_2 h => (loopW_start (fun m hm => ⟨trivial, hm⟩) (true, (0 : Int), []) rfl trivial (ok_bind h (fun e0 h hv0 => (ok_cond h (fun b_17 h => (ok_cond h (fun b_18 h => (have h := ok_ret h; h)) (fun b_18 h => ⟨(Int.natCast_nonneg 0), ⟨(ok_guard h).1, have h := (ok_guard h).2; (have h := ok_ret h; h)⟩⟩))) (fun b_17 h => (have h := ok_ret h; h))))))))) (fun b_1 h => (have h := ok_ret h; h)))⟩

/-! 51: loop.example/tablehouse/spec.GuardsOk -/
def c51 : Con := ⟨[.dat (Ty.sl TTable), .dat (Ty.sl TGuard)], fun args hp K => args2 (fun a0 a1 => withD (Ty.sl TTable) a0 fun tables => withD (Ty.sl TGuard) a1 fun guards => (Sm (Ty.sl TTable) tables) ∧ (Sm (Ty.sl TGuard) guards) ∧ K (.data Ty.bool (M.guardsOk tables guards)) []) args hp, .plain⟩
def cons51 : Cons := [(62, c62), (82, c82), (95, c95)]
def inl51 : List (Nat × Inl) := []
@[reducible] def C51 : Ctx := ⟨tab, fun t => memN t cmps, cons51, 53, inl51, 0, false⟩
theorem consOk51 : ConsOk P C51 := by
  refine consOk_cons (enter_ok (fn := f62) func62 (by kernel_rfl) rfl) con62_ok ?_
  refine consOk_cons (enter_ok (fn := f82) func82 (by kernel_rfl) rfl) con82_ok ?_
  refine consOk_cons (enter_ok (fn := f95) func95 (by kernel_rfl) rfl) con95_ok ?_
  exact consOk_nil
def ann51 : Nat → List Dir
  | 0 => [.keep [0, 1]]
  | 1 => [.keep [0, 1, 5]]
  | 2 => [.keep [0, 1, 5, 10]]
  | 3 => [.keep [0, 1, 5]]
  | 4 => [.fixRow 6 TGuard, .keep [0, 1, 5, 6]]
  | 5 => [.keep [0, 1, 5, 50]]
  | 6 => [.keep [4]]
  | 7 => [.keep [4]]
  | 100000 => [.keep [0]]
  | _ => []
@[reducible] def LP51_0 (tables : (List (TTable).D)) (guards : (List (TGuard).D)) (m : Nat) (st_ : St) (K : X → St → Prop) : Prop := (True) ∧ LoopI (fun (i0 : Int) (v0 : Unit) => (⟨[(0, .data (Ty.sl TTable) tables), (1, .data (Ty.sl TGuard) guards), (5, .data TInt i0)], []⟩ : St)) (0 : Int) (guards.length : Int) (F.spec_GuardsOk_l0 tables guards) (fun v0 : Unit => True) (outD (fun v0 : Unit => True → K (.exit 0) (⟨[(0, .data (Ty.sl TTable) tables)], []⟩ : St)) (fun q0 : Unit => K .ret (⟨[(4, .data Ty.bool false)], []⟩ : St))) m st_
def L51 (tables : (List (TTable).D)) (guards : (List (TGuard).D)) : Loops := fun id m st_ K => match id with
  | 0 => LP51_0 tables guards m st_ K
  | _ => False
theorem vc51 (tables : (List (TTable).D)) (guards : (List (TGuard).D)) (K : AV → Hp → Prop) : awp C51 (L51 tables guards) ann51 (bodyOf f51) ⟨argEnv 0 [.data (Ty.sl TTable) tables, .data (Ty.sl TGuard) guards], []⟩ (outK tab false f51.results.toList (hasBox []) (resK (.dat Ty.bool) K)) =
  ((∃ m_, (True) ∧ LoopI (fun (i0 : Int) (v0 : Unit) => (⟨[(0, .data (Ty.sl TTable) tables), (1, .data (Ty.sl TGuard) guards), (5, .data TInt i0)], []⟩ : St)) (0 : Int) (guards.length : Int) (F.spec_GuardsOk_l0 tables guards) (fun v0 : Unit => True) (outD (fun v0 : Unit => True → (Sm (Ty.sl TTable) tables) ∧ K (.data Ty.bool (M.tablesOk tables)) []) (fun q0 : Unit => K (.data Ty.bool false) [])) m_ (⟨[(0, .data (Ty.sl TTable) tables), (1, .data (Ty.sl TGuard) guards), (5, .data TInt (0 : Int))], []⟩ : St))) := by kernel_rfl
@[reducible] def S51l0_0 (tables : (List (TTable).D)) (guards : (List (TGuard).D))  (i0 : Int) (v0 : Unit) (m : Nat) (K : X → St → Prop) : Prop := (∃ m_, m_ < m ∧ (L51 tables guards) 0 m_ (⟨[(0, .data (Ty.sl TTable) tables), (1, .data (Ty.sl TGuard) guards), (5, .data TInt (wrap64 (i0 + (1 : Int))))], []⟩ : St) K)
theorem lvc51_0 (tables : (List (TTable).D)) (guards : (List (TGuard).D))  (i0 : Int) (v0 : Unit) (m : Nat) (K : X → St → Prop) : awp C51 (L51 tables guards) ann51 (loopAt (bodyOf f51) 0) (⟨[(0, .data (Ty.sl TTable) tables), (1, .data (Ty.sl TGuard) guards), (5, .data TInt i0)], []⟩ : St) (thenW (fun s' => ∃ m', m' < m ∧ (L51 tables guards) 0 m' s' K) (exitN 0 (ann51 (behind 0)) K)) =
  (cond (decide (i0 < (guards.length : Int))) ((0 ≤ i0) ∧ (i0 < (guards.length : Int)) ∧ cond ((!(M.inR ((nth (t := TGuard) guards i0).1) (0 : Int) (wrap64 ((tables.length : Int) - (1 : Int))))) == false) ((0 ≤ (nth (t := TGuard) guards i0).1) ∧ ((nth (t := TGuard) guards i0).1 < (tables.length : Int)) ∧ (Sm (Ty.sl TColumn) ((nth (t := TTable) tables ((nth (t := TGuard) guards i0).1)).1)) ∧ (Sm (Ty.sl TPart) (((nth (t := TGuard) guards i0).2).1)) ∧ cond ((!decide ((M.exprKind ((nth (t := TTable) tables ((nth (t := TGuard) guards i0).1)).1) (((nth (t := TGuard) guards i0).2).1)) = (3 : Int))) == false) (cond ((decide ((0 : Int) < i0)) == true) ((0 ≤ wrap64 (i0 - (1 : Int))) ∧ (wrap64 (i0 - (1 : Int)) < (guards.length : Int)) ∧ cond (decide ((nth (t := TGuard) guards i0).1 ≤ (nth (t := TGuard) guards (wrap64 (i0 - (1 : Int)))).1)) (K .ret (⟨[(4, .data Ty.bool false)], []⟩ : St)) ((S51l0_0  tables guards i0 v0 m K))) ((S51l0_0  tables guards i0 v0 m K))) (K .ret (⟨[(4, .data Ty.bool false)], []⟩ : St))) (K .ret (⟨[(4, .data Ty.bool false)], []⟩ : St))) (K (.exit 0) (⟨[(0, .data (Ty.sl TTable) tables)], []⟩ : St))) := by kernel_rfl
theorem con51_ok : ConOk P 51 c51 := by
  refine con_okR (fn := f51) (code := bodyOf f51) (tab_ok tab_check cmp_check) consOk51 mixed func51 rfl rfl fun args hp K h0 => ?_
  obtain ⟨a0, a1, rfl, rfl, h1⟩ := args2_elim h0
  obtain ⟨tables, rfl, h2⟩ := withD_elim h1
  obtain ⟨guards, rfl, h3⟩ := withD_elim h2
  obtain ⟨h_tables, h_guards, hK⟩ := h3
  have h : ok (F.spec_GuardsOk tables guards) (fun r => K (.data Ty.bool r) []) := ok_of_eq (F.spec_GuardsOk_eq tables guards h_tables h_guards) hK
  refine ⟨⟨show (2 : Nat) ≤ 53 by decide, show (2 : Nat) ≤ 1000000 by decide⟩, ann51, (L51 tables guards), (.dat Ty.bool), (loopsN1 (i0 := 0) (by kernel_rfl) ?_), ?_⟩
  · clear h
    intro m_ s_ K_ h
    obtain ⟨hc0, i0, v0, rfl, hl0, rfl, hv0, h⟩ := (show LP51_0 tables guards m_ s_ K_ from h)
    rw [lvc51_0 tables guards i0 v0 _ K_]
    exact (loopI_step h (fun ht0 h => ⟨hl0, ⟨ht0, (ok_cond h (fun b_19 h => ⟨(inR_lo (bnf (bgt b_19))), ⟨(inR_hi (bnf (bgt b_19))), ⟨(sm_nth h_tables ((nth (t := TGuard) guards i0).1)).1, ⟨(sm_nth h_guards i0).2.1, (ok_cond h (fun b_20 h => (ok_cond h (fun b_21 h => ⟨(ok_guard h).1, have h := (ok_guard h).2; ⟨(ok_guard h).1, have h := (ok_guard h).2; (ok_cond h (fun b_24 h => (have h := ok_ret h; h)) (fun b_24 h => (loopI_next (fun m hm => (show LP51_0 tables guards m _ _ from ⟨hc0, hm⟩)) () rfl hl0 low0 ht0 (sm_len h_guards) trivial (have h := ok_ret h; h))))⟩⟩) (fun b_21 h => (loopI_next (fun m hm => (show LP51_0 tables guards m _ _ from ⟨hc0, hm⟩)) () rfl hl0 low0 ht0 (sm_len h_guards) trivial (have h := ok_ret h; h))))) (fun b_20 h => (have h := ok_ret h; h)))⟩⟩⟩⟩) (fun b_19 h => (have h := ok_ret h; h)))⟩⟩) (fun h => (h trivial)))
  · rw [vc51 tables guards K]
    exact (loopI_start (fun m hm => ⟨trivial, hm⟩) (0 : Int) () rfl (Int.natCast_nonneg 0) trivial (ok_then h (fun v0 h hv0 => ⟨h_tables, (have h := ok_ret h; h)⟩) (fun q0 h => (have h := ok_ret h; h))))

/-! 96: loop.example/tablehouse/spec.l3Own -/
def c96 : Con := ⟨[.dat (Ty.sl TValue)], fun args hp K => args1 (fun a0 => withD (Ty.sl TValue) a0 fun row => (Sm (Ty.sl TValue) row) ∧ (∀ r : (List (TValue).D), r = (row) → K (.own 0 none) [(0, .arr false TValue r)])) args hp, .plain⟩
def cons96 : Cons := []
def inl96 : List (Nat × Inl) := []
@[reducible] def C96 : Ctx := ⟨tab, fun t => memN t cmps, cons96, 6, inl96, 0, false⟩
theorem consOk96 : ConsOk P C96 := by
  exact consOk_nil
def ann96 : Nat → List Dir
  | 0 => [.keep [0]]
  | 1 => [.keep [2]]
  | _ => []
def L96 (row : (List (TValue).D)) : Loops := fun id m st_ K => match id with
  | _ => False
theorem vc96 (row : (List (TValue).D)) (K : AV → Hp → Prop) : awp C96 (L96 row) ann96 (bodyOf f96) ⟨argEnv 0 [.data (Ty.sl TValue) row], []⟩ (outK tab false f96.results.toList (hasBox []) (resK .raw K)) =
  (((([] : List TValue.D).length + row.length) * 32 ≤ lim) ∧ K (.own 0 none) [(0, .arr false TValue ([] ++ row))]) := by kernel_rfl
theorem con96_ok : ConOk P 96 c96 := by
  refine con_okR (fn := f96) (code := bodyOf f96) (tab_ok tab_check cmp_check) consOk96 mixed func96 rfl rfl fun args hp K h0 => ?_
  obtain ⟨a0, rfl, rfl, h1⟩ := args1_elim h0
  obtain ⟨row, rfl, h2⟩ := withD_elim h1
  obtain ⟨h_row, hK⟩ := h2
  have h : ok (F.spec_l3Own row) (fun r => K (.own 0 none) [(0, .arr false TValue r)]) := ok_of_eq (F.spec_l3Own_eq row h_row) (hK _ rfl)
  refine ⟨⟨show (1 : Nat) ≤ 6 by decide, show (1 : Nat) ≤ 1000000 by decide⟩, ann96, (L96 row), .raw, (no_loops (by kernel_rfl)), ?_⟩
  · rw [vc96 row K]
    exact ⟨(sm_lim2 (sm_nil TValue) h_row rfl), (have h := ok_ret h; h)⟩

/-! 52: loop.example/tablehouse/spec.l11Tables -/
def c52 : Con := ⟨[.dat (Ty.sl TTable)], fun args hp K => args1 (fun a0 => withD (Ty.sl TTable) a0 fun tables => (Sm (Ty.sl TTable) tables) ∧ (∀ r : (List (TTable).D), r = (tables) → K (.own 0 none) [(0, .arr true TTable r)])) args hp, .bor⟩
def cons52 : Cons := [(96, c96)]
def inl52 : List (Nat × Inl) := []
@[reducible] def C52 : Ctx := ⟨tab, fun t => memN t cmps, cons52, 51, inl52, 0, true⟩
theorem consOk52 : ConsOk P C52 := by
  refine consOk_cons (enter_ok (fn := f96) func96 (by kernel_rfl) rfl) con96_ok ?_
  exact consOk_nil
def ann52 : Nat → List Dir
  | 0 => [.keep [0]]
  | 1 => [.keep [0, 3]]
  | 2 => [.keep [0, 3, 4]]
  | 3 => [.keep [0, 3, 4, 11]]
  | 4 => [.keep [0, 3, 4]]
  | 5 => [.keep [0, 3, 4, 5]]
  | 6 => [.mineC true 5 1 800081 (Ty.sl TValue), .keep [0, 3, 4, 5, 6]]
  | 7 => [.keep [0, 3, 4, 5, 6, 29]]
  | 8 => [.keep [0, 3, 4, 5, 6]]
  | 9 => [.keep [0, 3, 4, 5, 6]]
  | 10 => [.keep [0, 3, 4]]
  | 11 => [.keep [2]]
  | 100000 => [.keep [3]]
  | 100002 => [.keep [0, 3, 4, 5]]
  | _ => []
@[reducible] def LP52_0 (tables : (List (TTable).D)) (m : Nat) (st_ : St) (K : X → St → Prop) : Prop := (True) ∧ LoopI (fun (i0 : Int) (v0 : (List (TTable).D)) => (⟨[(0, .data (Ty.sl TTable) tables), (3, .own 7 none), (4, .data TInt i0)], [(7, .arr true TTable v0)]⟩ : St)) (0 : Int) (tables.length : Int) (F.spec_l11Tables_l0 tables) (fun v0 : (List (TTable).D) => True) (outD (fun v0 : (List (TTable).D) => True → K (.exit 0) (⟨[(3, .own 7 none)], [(7, .arr true TTable v0)]⟩ : St)) (fun _ => False)) m st_
@[reducible] def LP52_2 (tables : (List (TTable).D)) (m : Nat) (st_ : St) (K : X → St → Prop) : Prop := ∃ c2_0 : Int, ∃ c2_1 : (List (TTable).D), ∃ c2_2 : (List (TColumn).D), (True) ∧ LoopW (fun v2 : Int × (List (List (TValue).D)) => (⟨[(0, .data (Ty.sl TTable) tables), (3, .own 7 none), (4, .data TInt c2_0), (5, .ptr 5 0), (6, .data TInt v2.1)], [(7, .arr true TTable c2_1), (5, .box [.own 14 none, .own 800081 none]), (14, .arr false TColumn c2_2), (800081, .arr true (Ty.sl TValue) v2.2)]⟩ : St)) (F.spec_l11Tables_l2 tables c2_0 c2_1 c2_2) (fun v2 : Int × (List (List (TValue).D)) => True) ((fun e2 : (List (List (TValue).D)) => True → K (.exit 2) (⟨[(0, .data (Ty.sl TTable) tables), (3, .own 7 none), (4, .data TInt c2_0), (5, .ptr 5 0)], [(7, .arr true TTable c2_1), (5, .box [.own 14 none, .own 800081 none]), (14, .arr false TColumn c2_2), (800081, .arr true (Ty.sl TValue) e2)]⟩ : St))) m st_
def L52 (tables : (List (TTable).D)) : Loops := fun id m st_ K => match id with
  | 0 => LP52_0 tables m st_ K
  | 2 => LP52_2 tables m st_ K
  | _ => False
theorem vc52 (tables : (List (TTable).D)) (K : AV → Hp → Prop) : awp C52 (L52 tables) ann52 (bodyOf f52) ⟨argEnv 0 [.data (Ty.sl TTable) tables], []⟩ (outK tab true f52.results.toList (hasBox []) (resK .raw K)) =
  ((∃ m_, (True) ∧ LoopI (fun (i0 : Int) (v0 : (List (TTable).D)) => (⟨[(0, .data (Ty.sl TTable) tables), (3, .own 7 none), (4, .data TInt i0)], [(7, .arr true TTable v0)]⟩ : St)) (0 : Int) (tables.length : Int) (F.spec_l11Tables_l0 tables) (fun v0 : (List (TTable).D) => True) (outD (fun v0 : (List (TTable).D) => True → K (.own 0 none) [(0, .arr true TTable v0)]) (fun _ => False)) m_ (⟨[(0, .data (Ty.sl TTable) tables), (3, .own 7 none), (4, .data TInt (0 : Int))], [(7, .arr true TTable [])]⟩ : St))) := by kernel_rfl
theorem lvc52_0 (tables : (List (TTable).D))  (i0 : Int) (v0 : (List (TTable).D)) (m : Nat) (K : X → St → Prop) : awp C52 (L52 tables) ann52 (loopAt (bodyOf f52) 0) (⟨[(0, .data (Ty.sl TTable) tables), (3, .own 7 none), (4, .data TInt i0)], [(7, .arr true TTable v0)]⟩ : St) (thenW (fun s' => ∃ m', m' < m ∧ (L52 tables) 0 m' s' K) (exitN 0 (ann52 (behind 0)) K)) =
  (cond (decide (i0 < (tables.length : Int))) ((0 ≤ i0) ∧ (i0 < (tables.length : Int)) ∧ ((([] : List TColumn.D).length + ((nth (t := TTable) tables i0).1).length) * 16 ≤ lim) ∧ (∃ m_, ∃ c2_0 : Int, ∃ c2_1 : (List (TTable).D), ∃ c2_2 : (List (TColumn).D), (True) ∧ LoopW (fun v2 : Int × (List (List (TValue).D)) => (⟨[(0, .data (Ty.sl TTable) tables), (3, .own 7 none), (4, .data TInt c2_0), (5, .ptr 5 0), (6, .data TInt v2.1)], [(7, .arr true TTable c2_1), (5, .box [.own 14 none, .own 800081 none]), (14, .arr false TColumn c2_2), (800081, .arr true (Ty.sl TValue) v2.2)]⟩ : St)) (F.spec_l11Tables_l2 tables c2_0 c2_1 c2_2) (fun v2 : Int × (List (List (TValue).D)) => True) ((fun e2 : (List (List (TValue).D)) => True → ((c2_1.length + [(c2_2, (e2, ()))].length) * 48 ≤ lim) ∧ (∃ m_, m_ < m ∧ (L52 tables) 0 m_ (⟨[(0, .data (Ty.sl TTable) tables), (3, .own 7 none), (4, .data TInt (wrap64 (c2_0 + (1 : Int))))], [(7, .arr true TTable (c2_1 ++ [(c2_2, (e2, ()))]))]⟩ : St) K))) m_ (⟨[(0, .data (Ty.sl TTable) tables), (3, .own 7 none), (4, .data TInt i0), (5, .ptr 5 0), (6, .data TInt (0 : Int))], [(7, .arr true TTable v0), (5, .box [.own 14 none, .own 800081 none]), (14, .arr false TColumn ([] ++ (nth (t := TTable) tables i0).1)), (800081, .arr true (Ty.sl TValue) [])]⟩ : St))) (K (.exit 0) (⟨[(3, .own 7 none)], [(7, .arr true TTable v0)]⟩ : St))) := by kernel_rfl
theorem lvc52_1 (tables : (List (TTable).D)) (c2_0 : Int) (c2_1 : (List (TTable).D)) (c2_2 : (List (TColumn).D)) (v2 : Int × (List (List (TValue).D))) (m : Nat) (K : X → St → Prop) : awp C52 (L52 tables) ann52 (loopAt (bodyOf f52) 1) (⟨[(0, .data (Ty.sl TTable) tables), (3, .own 7 none), (4, .data TInt c2_0), (5, .ptr 5 0), (6, .data TInt v2.1)], [(7, .arr true TTable c2_1), (5, .box [.own 14 none, .own 800081 none]), (14, .arr false TColumn c2_2), (800081, .arr true (Ty.sl TValue) v2.2)]⟩ : St) (thenW (fun s' => ∃ m', m' < m ∧ (L52 tables) 2 m' s' K) (exitN 2 (ann52 (behind 2)) K)) =
  ((0 ≤ c2_0) ∧ (c2_0 < (tables.length : Int)) ∧ cond (decide (v2.1 < ((((nth (t := TTable) tables c2_0).2).1).length : Int))) ((0 ≤ c2_0) ∧ (c2_0 < (tables.length : Int)) ∧ (0 ≤ v2.1) ∧ (v2.1 < ((((nth (t := TTable) tables c2_0).2).1).length : Int)) ∧ (Sm (Ty.sl TValue) (nth (t := (Ty.sl TValue)) (((nth (t := TTable) tables c2_0).2).1) v2.1)) ∧ (∀ r_9_10 : (List (TValue).D), r_9_10 = ((nth (t := (Ty.sl TValue)) (((nth (t := TTable) tables c2_0).2).1) v2.1)) → ((v2.2.length + [r_9_10].length) * 24 ≤ lim) ∧ (∃ m_, m_ < m ∧ (L52 tables) 2 m_ (⟨[(0, .data (Ty.sl TTable) tables), (3, .own 7 none), (4, .data TInt c2_0), (5, .ptr 5 0), (6, .data TInt (wrap64 (v2.1 + (1 : Int))))], [(7, .arr true TTable c2_1), (5, .box [.own 14 none, .own 800081 none]), (14, .arr false TColumn c2_2), (800081, .arr true (Ty.sl TValue) (v2.2 ++ [r_9_10]))]⟩ : St) K))) (K (.exit 2) (⟨[(0, .data (Ty.sl TTable) tables), (3, .own 7 none), (4, .data TInt c2_0), (5, .ptr 5 0)], [(7, .arr true TTable c2_1), (5, .box [.own 14 none, .own 800081 none]), (14, .arr false TColumn c2_2), (800081, .arr true (Ty.sl TValue) v2.2)]⟩ : St))) := by kernel_rfl
theorem con52_ok : ConOk P 52 c52 := by
  refine con_okR (fn := f52) (code := bodyOf f52) (tab_ok tab_check cmp_check) consOk52 mixed func52 rfl rfl fun args hp K h0 => ?_
  obtain ⟨a0, rfl, rfl, h1⟩ := args1_elim h0
  obtain ⟨tables, rfl, h2⟩ := withD_elim h1
  obtain ⟨h_tables, hK⟩ := h2
  have h : ok (F.spec_l11Tables tables) (fun r => K (.own 0 none) [(0, .arr true TTable r)]) := ok_of_eq (F.spec_l11Tables_eq tables h_tables) (hK _ rfl)
  refine ⟨⟨show (1 : Nat) ≤ 51 by decide, show (1 : Nat) ≤ 1000000 by decide⟩, ann52, (L52 tables), .raw, (loopsN2 (i0 := 0) (i1 := 2) (by kernel_rfl) ?_ ?_), ?_⟩
  · clear h
    intro m_ s_ K_ h
    obtain ⟨hc0, i0, v0, rfl, hl0, rfl, hv0, h⟩ := (show LP52_0 tables m_ s_ K_ from h)
    rw [lvc52_0 tables i0 v0 _ K_]
    exact (loopI_step h (fun ht0 h => ⟨hl0, ⟨ht0, ⟨(sm_lim2 (sm_nil TColumn) (sm_nth h_tables i0).1 rfl), (loopW_start (fun m hm => ⟨i0, v0, ([] ++ (nth (t := TTable) tables i0).1), trivial, hm⟩) ((0 : Int), []) rfl trivial (ok_bind h (fun e2 h hv2 => ⟨(ok_guard h).1, have h := (ok_guard h).2; (loopI_next (fun m hm => (show LP52_0 tables m _ _ from ⟨hc0, hm⟩)) (v0 ++ [(([] ++ (nth (t := TTable) tables i0).1), (e2, ()))]) rfl hl0 low0 ht0 (sm_len h_tables) trivial (have h := ok_ret h; h))⟩)))⟩⟩⟩) (fun h => (h trivial)))
  · clear h
    intro m_ s_ K_ h
    obtain ⟨c2_0, c2_1, c2_2, hc2, v2, rfl, hv2, h⟩ := (show LP52_2 tables m_ s_ K_ from h)
    rw [lvc52_1 tables c2_0 c2_1 c2_2 v2 _ K_]
    exact (loopW_step h (fun m1 hm2 h => ⟨(ok_guard h).1, have g_4 := (ok_guard h).1; have h := (ok_guard h).2; ⟨(ok_guard h).1, have g_5 := (ok_guard h).1; have h := (ok_guard h).2; (ok_cond h (fun b_6 h => ⟨g_4, ⟨g_5, ⟨(ok_guard h).1, have h := (ok_guard h).2; ⟨(ok_guard h).1, have h := (ok_guard h).2; ⟨(sm_nth (sm_nth h_tables c2_0).2.1 v2.1), (fun r_9_10 e_r_9_10 => have h := ok_let h r_9_10 e_r_9_10; ⟨(ok_guard h).1, have h := (ok_guard h).2; (loopW_next (fun m hm => (show LP52_2 tables m _ _ from ⟨c2_0, c2_1, c2_2, hc2, hm⟩)) hm2 (wrap64 (v2.1 + (1 : Int)), (v2.2 ++ [r_9_10])) rfl trivial (have h := ok_ret h; h))⟩)⟩⟩⟩⟩⟩) (fun b_6 h => ((have h := ok_ret h; h) trivial)))⟩⟩))
  · rw [vc52 tables K]
    exact (loopI_start (fun m hm => ⟨trivial, hm⟩) (0 : Int) [] rfl (Int.natCast_nonneg 0) trivial (ok_then h (fun v0 h hv0 => (have h := ok_ret h; h)) (fun _ h => h.elim)))

/-! 98: loop.example/tablehouse/spec.ValueOf -/
def c98 : Con := ⟨[.dat TInt], fun args hp K => args1 (fun a0 => withD TInt a0 fun truth => (∀ r : (TValue).D, r = (M.valueOf truth) → K (.data TValue r) [])) args hp, .plain⟩
def cons98 : Cons := []
def inl98 : List (Nat × Inl) := []
@[reducible] def C98 : Ctx := ⟨tab, fun t => memN t cmps, cons98, 12, inl98, 0, false⟩
theorem consOk98 : ConsOk P C98 := by
  exact consOk_nil
def ann98 : Nat → List Dir
  | 0 => [.keep [0, 2]]
  | 1 => [.keep [0, 2, 8]]
  | 2 => [.keep [2]]
  | 3 => [.keep [2]]
  | _ => []
def L98 (truth : Int) : Loops := fun id m st_ K => match id with
  | _ => False
theorem vc98 (truth : Int) (K : AV → Hp → Prop) : awp C98 (L98 truth) ann98 (bodyOf f98) ⟨argEnv 0 [.data TInt truth], []⟩ (outK tab false f98.results.toList (hasBox []) (resK (.dat TValue) K)) =
  (cond ((decide (truth = (0 : Int))) == false) (cond (decide (truth = (1 : Int))) (K (.data TValue ((3 : Int), (truth, ((⟨#[]⟩ : ByteArray), ())))) []) (K (.data TValue ((0 : Int), ((0 : Int), ((⟨#[]⟩ : ByteArray), ())))) [])) (K (.data TValue ((3 : Int), (truth, ((⟨#[]⟩ : ByteArray), ())))) [])) := by kernel_rfl
theorem con98_ok : ConOk P 98 c98 := by
  refine con_okR (fn := f98) (code := bodyOf f98) (tab_ok tab_check cmp_check) consOk98 mixed func98 rfl rfl fun args hp K h0 => ?_
  obtain ⟨a0, rfl, rfl, h1⟩ := args1_elim h0
  obtain ⟨truth, rfl, h2⟩ := withD_elim h1
  have hK := h2
  have h : ok (F.spec_ValueOf truth) (fun r => K (.data TValue r) []) := ok_of_eq (F.spec_ValueOf_eq truth) (hK _ rfl)
  refine ⟨⟨show (1 : Nat) ≤ 12 by decide, show (1 : Nat) ≤ 1000000 by decide⟩, ann98, (L98 truth), (.dat TValue), (no_loops (by kernel_rfl)), ?_⟩
  · rw [vc98 truth K]
    exact (ok_cond h (fun b_1 h => (ok_cond h (fun b_2 h => (have h := ok_ret h; h)) (fun b_2 h => (have h := ok_ret h; h)))) (fun b_1 h => (have h := ok_ret h; h)))

/-! 158: loop.example/tablehouse/spec.l4Sum -/
def c158 : Con := ⟨[.dat TValue, .dat TValue], fun args hp K => args2 (fun a0 a1 => withD TValue a0 fun a => withD TValue a1 fun b => (Sm TValue a) ∧ (Sm TValue b) ∧ (∀ r : (TValue).D, r = (M.sum a b) → K (.data TValue r) [])) args hp, .plain⟩
def cons158 : Cons := [(62, c62)]
def inl158 : List (Nat × Inl) := []
@[reducible] def C158 : Ctx := ⟨tab, fun t => memN t cmps, cons158, 27, inl158, 0, false⟩
theorem consOk158 : ConsOk P C158 := by
  refine consOk_cons (enter_ok (fn := f62) func62 (by kernel_rfl) rfl) con62_ok ?_
  exact consOk_nil
def ann158 : Nat → List Dir
  | 0 => [.fixRow 2 TValue, .fixRow 3 TValue, .keep [2, 3, 4]]
  | 1 => [.keep [2, 3, 4, 5]]
  | 2 => [.keep [4, 5, 23]]
  | 3 => [.keep [4]]
  | 4 => [.keep [4]]
  | _ => []
def L158 (a : (TValue).D) (b : (TValue).D) : Loops := fun id m st_ K => match id with
  | _ => False
theorem vc158 (a : (TValue).D) (b : (TValue).D) (K : AV → Hp → Prop) : awp C158 (L158 a b) ann158 (bodyOf f158) ⟨argEnv 0 [.data TValue a, .data TValue b], []⟩ (outK tab false f158.results.toList (hasBox []) (resK (.dat TValue) K)) =
  (cond ((decide (a.1 = (0 : Int))) == false) (cond ((decide (b.1 = (0 : Int))) == false) (cond (!(M.inR (wrap64 (a.2.1 + b.2.1)) (-9999 : Int) (9999 : Int))) (K (.data TValue ((0 : Int), ((0 : Int), ((⟨#[]⟩ : ByteArray), ())))) []) (K (.data TValue ((1 : Int), (wrap64 (a.2.1 + b.2.1), ((⟨#[]⟩ : ByteArray), ())))) [])) (K (.data TValue ((0 : Int), ((0 : Int), ((⟨#[]⟩ : ByteArray), ())))) [])) (K (.data TValue ((0 : Int), ((0 : Int), ((⟨#[]⟩ : ByteArray), ())))) [])) := by kernel_rfl
theorem con158_ok : ConOk P 158 c158 := by
  refine con_okR (fn := f158) (code := bodyOf f158) (tab_ok tab_check cmp_check) consOk158 mixed func158 rfl rfl fun args hp K h0 => ?_
  obtain ⟨a0, a1, rfl, rfl, h1⟩ := args2_elim h0
  obtain ⟨a, rfl, h2⟩ := withD_elim h1
  obtain ⟨b, rfl, h3⟩ := withD_elim h2
  obtain ⟨h_a, h_b, hK⟩ := h3
  have h : ok (F.spec_l4Sum a b) (fun r => K (.data TValue r) []) := ok_of_eq (F.spec_l4Sum_eq a b h_a h_b) (hK _ rfl)
  refine ⟨⟨show (2 : Nat) ≤ 27 by decide, show (2 : Nat) ≤ 1000000 by decide⟩, ann158, (L158 a b), (.dat TValue), (no_loops (by kernel_rfl)), ?_⟩
  · rw [vc158 a b K]
    exact (ok_cond h (fun b_1 h => (ok_cond h (fun b_2 h => (ok_cond h (fun b_3 h => (have h := ok_ret h; h)) (fun b_3 h => (have h := ok_ret h; h)))) (fun b_2 h => (have h := ok_ret h; h)))) (fun b_1 h => (have h := ok_ret h; h)))

/-! 164: loop.example/tablehouse/spec.l2Bool -/
def c164 : Con := ⟨[.dat Ty.bool], fun args hp K => args1 (fun a0 => withD Ty.bool a0 fun b => K (.data TInt (M.bool b)) []) args hp, .plain⟩
def cons164 : Cons := []
def inl164 : List (Nat × Inl) := []
@[reducible] def C164 : Ctx := ⟨tab, fun t => memN t cmps, cons164, 4, inl164, 0, false⟩
theorem consOk164 : ConsOk P C164 := by
  exact consOk_nil
def ann164 : Nat → List Dir
  | 0 => [.keep [0]]
  | 1 => [.keep [3]]
  | 2 => [.keep [2]]
  | 3 => [.keep [2]]
  | _ => []
def L164 (b : Bool) : Loops := fun id m st_ K => match id with
  | _ => False
theorem vc164 (b : Bool) (K : AV → Hp → Prop) : awp C164 (L164 b) ann164 (bodyOf f164) ⟨argEnv 0 [.data Ty.bool b], []⟩ (outK tab false f164.results.toList (hasBox []) (resK (.dat TInt) K)) =
  (cond b (K (.data TInt (1 : Int)) []) (K (.data TInt (0 : Int)) [])) := by kernel_rfl
theorem con164_ok : ConOk P 164 c164 := by
  refine con_okR (fn := f164) (code := bodyOf f164) (tab_ok tab_check cmp_check) consOk164 mixed func164 rfl rfl fun args hp K h0 => ?_
  obtain ⟨a0, rfl, rfl, h1⟩ := args1_elim h0
  obtain ⟨b, rfl, h2⟩ := withD_elim h1
  have hK := h2
  have h : ok (F.spec_l2Bool b) (fun r => K (.data TInt r) []) := ok_of_eq (F.spec_l2Bool_eq b) hK
  refine ⟨⟨show (1 : Nat) ≤ 4 by decide, show (1 : Nat) ≤ 1000000 by decide⟩, ann164, (L164 b), (.dat TInt), (no_loops (by kernel_rfl)), ?_⟩
  · rw [vc164 b K]
    exact (ok_cond h (fun b_1 h => (have h := ok_ret h; h)) (fun b_1 h => (have h := ok_ret h; h)))

/-! 207: loop.example/tablehouse/spec.l1Less -/
def c207 : Con := ⟨[.dat TInt, .dat TInt], fun args hp K => args2 (fun a0 a1 => withD TInt a0 fun a => withD TInt a1 fun b => K (.data TInt (M.less a b)) []) args hp, .plain⟩
def cons207 : Cons := []
def inl207 : List (Nat × Inl) := []
@[reducible] def C207 : Ctx := ⟨tab, fun t => memN t cmps, cons207, 8, inl207, 0, false⟩
theorem consOk207 : ConsOk P C207 := by
  exact consOk_nil
def ann207 : Nat → List Dir
  | 0 => [.keep [0, 1]]
  | 1 => [.keep [7]]
  | 2 => [.keep [4]]
  | 3 => [.keep [4]]
  | _ => []
def L207 (a : Int) (b : Int) : Loops := fun id m st_ K => match id with
  | _ => False
theorem vc207 (a : Int) (b : Int) (K : AV → Hp → Prop) : awp C207 (L207 a b) ann207 (bodyOf f207) ⟨argEnv 0 [.data TInt a, .data TInt b], []⟩ (outK tab false f207.results.toList (hasBox []) (resK (.dat TInt) K)) =
  (cond (decide (a < b)) (K (.data TInt (1 : Int)) []) (K (.data TInt (0 : Int)) [])) := by kernel_rfl
theorem con207_ok : ConOk P 207 c207 := by
  refine con_okR (fn := f207) (code := bodyOf f207) (tab_ok tab_check cmp_check) consOk207 mixed func207 rfl rfl fun args hp K h0 => ?_
  obtain ⟨a0, a1, rfl, rfl, h1⟩ := args2_elim h0
  obtain ⟨a, rfl, h2⟩ := withD_elim h1
  obtain ⟨b, rfl, h3⟩ := withD_elim h2
  have hK := h3
  have h : ok (F.spec_l1Less a b) (fun r => K (.data TInt r) []) := ok_of_eq (F.spec_l1Less_eq a b) hK
  refine ⟨⟨show (2 : Nat) ≤ 8 by decide, show (2 : Nat) ≤ 1000000 by decide⟩, ann207, (L207 a b), (.dat TInt), (no_loops (by kernel_rfl)), ?_⟩
  · rw [vc207 a b K]
    exact (ok_cond h (fun b_1 h => (have h := ok_ret h; h)) (fun b_1 h => (have h := ok_ret h; h)))

/-! 208: loop.example/tablehouse/spec.l1Cmp -/
def c208 : Con := ⟨[.dat Ty.str, .dat Ty.str], fun args hp K => args2 (fun a0 a1 => withD Ty.str a0 fun a => withD Ty.str a1 fun b => (Sm Ty.str a) ∧ (Sm Ty.str b) ∧ K (.data TInt (M.cmpS a b)) []) args hp, .plain⟩
def cons208 : Cons := []
def inl208 : List (Nat × Inl) := []
@[reducible] def C208 : Ctx := ⟨tab, fun t => memN t cmps, cons208, 11, inl208, 0, false⟩
theorem consOk208 : ConsOk P C208 := by
  exact consOk_nil
def ann208 : Nat → List Dir
  | 0 => [.keep [0, 1]]
  | 1 => [.keep [0, 1, 7]]
  | 2 => [.keep [4]]
  | 3 => [.keep [10]]
  | 4 => [.keep [4]]
  | 5 => [.keep [4]]
  | _ => []
def L208 (a : ByteArray) (b : ByteArray) : Loops := fun id m st_ K => match id with
  | _ => False
theorem vc208 (a : ByteArray) (b : ByteArray) (K : AV → Hp → Prop) : awp C208 (L208 a b) ann208 (bodyOf f208) ⟨argEnv 0 [.data Ty.str a, .data Ty.str b], []⟩ (outK tab false f208.results.toList (hasBox []) (resK (.dat TInt) K)) =
  (cond (Op.bytesLess a.toList b.toList) (K (.data TInt (-1 : Int)) []) (cond (!(Op.bytesLess a.toList b.toList || decide (a = b))) (K (.data TInt (1 : Int)) []) (K (.data TInt (0 : Int)) []))) := by kernel_rfl
theorem con208_ok : ConOk P 208 c208 := by
  refine con_okR (fn := f208) (code := bodyOf f208) (tab_ok tab_check cmp_check) consOk208 mixed func208 rfl rfl fun args hp K h0 => ?_
  obtain ⟨a0, a1, rfl, rfl, h1⟩ := args2_elim h0
  obtain ⟨a, rfl, h2⟩ := withD_elim h1
  obtain ⟨b, rfl, h3⟩ := withD_elim h2
  obtain ⟨h_a, h_b, hK⟩ := h3
  have h : ok (F.spec_l1Cmp a b) (fun r => K (.data TInt r) []) := ok_of_eq (F.spec_l1Cmp_eq a b h_a h_b) hK
  refine ⟨⟨show (2 : Nat) ≤ 11 by decide, show (2 : Nat) ≤ 1000000 by decide⟩, ann208, (L208 a b), (.dat TInt), (no_loops (by kernel_rfl)), ?_⟩
  · rw [vc208 a b K]
    exact (ok_cond h (fun b_1 h => (have h := ok_ret h; h)) (fun b_1 h => (ok_cond h (fun b_2 h => (have h := ok_ret h; h)) (fun b_2 h => (have h := ok_ret h; h)))))

/-! 193: loop.example/tablehouse/spec.ValueOrder -/
def c193 : Con := ⟨[.dat TValue, .dat TValue], fun args hp K => args2 (fun a0 a1 => withD TValue a0 fun a => withD TValue a1 fun b => (Sm TValue a) ∧ (Sm TValue b) ∧ K (.data TInt (M.valueOrder a b)) []) args hp, .plain⟩
def cons193 : Cons := [(157, c157), (207, c207), (208, c208)]
def inl193 : List (Nat × Inl) := []
@[reducible] def C193 : Ctx := ⟨tab, fun t => memN t cmps, cons193, 44, inl193, 0, false⟩
theorem consOk193 : ConsOk P C193 := by
  refine consOk_cons (enter_ok (fn := f157) func157 (by kernel_rfl) rfl) con157_ok ?_
  refine consOk_cons (enter_ok (fn := f207) func207 (by kernel_rfl) rfl) con207_ok ?_
  refine consOk_cons (enter_ok (fn := f208) func208 (by kernel_rfl) rfl) con208_ok ?_
  exact consOk_nil
def ann193 : Nat → List Dir
  | 0 => [.fixRow 2 TValue, .fixRow 3 TValue, .keep [2, 3]]
  | 1 => [.keep [2, 3, 12]]
  | 2 => [.keep [4]]
  | 3 => [.keep [2, 3, 13]]
  | 4 => [.keep [4]]
  | 5 => [.keep [2, 3, 26]]
  | 6 => [.keep [4]]
  | 7 => [.keep [4]]
  | _ => []
def L193 (a : (TValue).D) (b : (TValue).D) : Loops := fun id m st_ K => match id with
  | _ => False
theorem vc193 (a : (TValue).D) (b : (TValue).D) (K : AV → Hp → Prop) : awp C193 (L193 a b) ann193 (bodyOf f193) ⟨argEnv 0 [.data TValue a, .data TValue b], []⟩ (outK tab false f193.results.toList (hasBox []) (resK (.dat TInt) K)) =
  ((Sm TValue a) ∧ cond ((!(M.valueOk a)) == false) ((Sm TValue b) ∧ cond (!(M.valueOk b)) (K (.data TInt (0 : Int)) []) (cond (!decide (a.1 = b.1)) (K (.data TInt (wrap64 (wrap64 ((2 : Int) * (M.less b.1 a.1)) - (1 : Int)))) []) (cond (!decide (a.2.1 = b.2.1)) (K (.data TInt (wrap64 (wrap64 ((2 : Int) * (M.less b.2.1 a.2.1)) - (1 : Int)))) []) ((Sm Ty.str a.2.2.1) ∧ (Sm Ty.str b.2.2.1) ∧ K (.data TInt (M.cmpS a.2.2.1 b.2.2.1)) [])))) (K (.data TInt (0 : Int)) [])) := by kernel_rfl
theorem con193_ok : ConOk P 193 c193 := by
  refine con_okR (fn := f193) (code := bodyOf f193) (tab_ok tab_check cmp_check) consOk193 mixed func193 rfl rfl fun args hp K h0 => ?_
  obtain ⟨a0, a1, rfl, rfl, h1⟩ := args2_elim h0
  obtain ⟨a, rfl, h2⟩ := withD_elim h1
  obtain ⟨b, rfl, h3⟩ := withD_elim h2
  obtain ⟨h_a, h_b, hK⟩ := h3
  have h : ok (F.spec_ValueOrder a b) (fun r => K (.data TInt r) []) := ok_of_eq (F.spec_ValueOrder_eq a b h_a h_b) hK
  refine ⟨⟨show (2 : Nat) ≤ 44 by decide, show (2 : Nat) ≤ 1000000 by decide⟩, ann193, (L193 a b), (.dat TInt), (no_loops (by kernel_rfl)), ?_⟩
  · rw [vc193 a b K]
    exact ⟨h_a, (ok_cond h (fun b_1 h => ⟨h_b, (ok_cond h (fun b_2 h => (have h := ok_ret h; h)) (fun b_2 h => (ok_cond h (fun b_3 h => (have h := ok_ret h; h)) (fun b_3 h => (ok_cond h (fun b_4 h => (have h := ok_ret h; h)) (fun b_4 h => ⟨h_a.2.2.1, ⟨h_b.2.2.1, (have h := ok_ret h; h)⟩⟩))))))⟩) (fun b_1 h => (have h := ok_ret h; h)))⟩

/-! 159: loop.example/tablehouse/spec.Compare -/
def c159 : Con := ⟨[.dat TInt, .dat TValue, .dat TValue], fun args hp K => args3 (fun a0 a1 a2 => withD TInt a0 fun kind => withD TValue a1 fun a => withD TValue a2 fun b => (Sm TValue a) ∧ (Sm TValue b) ∧ K (.data TInt (M.compare kind a b)) []) args hp, .plain⟩
def cons159 : Cons := [(62, c62), (157, c157), (164, c164), (193, c193)]
def inl159 : List (Nat × Inl) := []
@[reducible] def C159 : Ctx := ⟨tab, fun t => memN t cmps, cons159, 65, inl159, 0, false⟩
theorem consOk159 : ConsOk P C159 := by
  refine consOk_cons (enter_ok (fn := f62) func62 (by kernel_rfl) rfl) con62_ok ?_
  refine consOk_cons (enter_ok (fn := f157) func157 (by kernel_rfl) rfl) con157_ok ?_
  refine consOk_cons (enter_ok (fn := f164) func164 (by kernel_rfl) rfl) con164_ok ?_
  refine consOk_cons (enter_ok (fn := f193) func193 (by kernel_rfl) rfl) con193_ok ?_
  exact consOk_nil
def ann159 : Nat → List Dir
  | 0 => [.fixRow 4 TValue, .fixRow 5 TValue, .keep [0, 4, 5]]
  | 1 => [.keep [0, 4, 5, 7]]
  | 2 => [.keep [6]]
  | 3 => [.keep [0, 4, 5, 21]]
  | 4 => [.keep [6]]
  | 5 => [.keep [0, 4, 5, 30]]
  | 6 => [.keep [6]]
  | 7 => [.keep [0, 4, 5, 36]]
  | 8 => [.keep [6]]
  | 9 => [.keep [0, 4, 5, 44]]
  | 10 => [.keep [6]]
  | 11 => [.keep [4, 5, 52]]
  | 12 => [.keep [6]]
  | 13 => [.keep [6]]
  | _ => []
def L159 (kind : Int) (a : (TValue).D) (b : (TValue).D) : Loops := fun id m st_ K => match id with
  | _ => False
theorem vc159 (kind : Int) (a : (TValue).D) (b : (TValue).D) (K : AV → Hp → Prop) : awp C159 (L159 kind a b) ann159 (bodyOf f159) ⟨argEnv 0 [.data TInt kind, .data TValue a, .data TValue b], []⟩ (outK tab false f159.results.toList (hasBox []) (resK (.dat TInt) K)) =
  (cond ((!(M.inR kind (1 : Int) (4 : Int))) == false) ((Sm TValue a) ∧ cond ((!(M.valueOk a)) == false) ((Sm TValue b) ∧ cond (!(M.valueOk b)) (K (.data TInt (-1 : Int)) []) (cond ((decide (a.1 = (0 : Int))) == false) (cond (decide (b.1 = (0 : Int))) (K (.data TInt (2 : Int)) []) (cond (!decide (a.1 = b.1)) (K (.data TInt (-1 : Int)) []) (cond (decide (kind = (1 : Int))) ((Sm TValue a) ∧ (Sm TValue b) ∧ K (.data TInt (M.bool (decide ((M.valueOrder a b) = (0 : Int))))) []) (cond (decide (kind = (2 : Int))) ((Sm TValue a) ∧ (Sm TValue b) ∧ K (.data TInt (M.bool (!decide ((M.valueOrder a b) = (0 : Int))))) []) (cond (decide (kind = (3 : Int))) ((Sm TValue a) ∧ (Sm TValue b) ∧ K (.data TInt (M.bool (decide ((M.valueOrder a b) < (0 : Int))))) []) ((Sm TValue a) ∧ (Sm TValue b) ∧ K (.data TInt (M.bool (decide ((M.valueOrder a b) ≤ (0 : Int))))) [])))))) (K (.data TInt (2 : Int)) []))) (K (.data TInt (-1 : Int)) [])) (K (.data TInt (-1 : Int)) [])) := by kernel_rfl
theorem con159_ok : ConOk P 159 c159 := by
  refine con_okR (fn := f159) (code := bodyOf f159) (tab_ok tab_check cmp_check) consOk159 mixed func159 rfl rfl fun args hp K h0 => ?_
  obtain ⟨a0, a1, a2, rfl, rfl, h1⟩ := args3_elim h0
  obtain ⟨kind, rfl, h2⟩ := withD_elim h1
  obtain ⟨a, rfl, h3⟩ := withD_elim h2
  obtain ⟨b, rfl, h4⟩ := withD_elim h3
  obtain ⟨h_a, h_b, hK⟩ := h4
  have h : ok (F.spec_Compare kind a b) (fun r => K (.data TInt r) []) := ok_of_eq (F.spec_Compare_eq kind a b h_a h_b) hK
  refine ⟨⟨show (3 : Nat) ≤ 65 by decide, show (3 : Nat) ≤ 1000000 by decide⟩, ann159, (L159 kind a b), (.dat TInt), (no_loops (by kernel_rfl)), ?_⟩
  · rw [vc159 kind a b K]
    exact (ok_cond h (fun b_1 h => ⟨h_a, (ok_cond h (fun b_2 h => ⟨h_b, (ok_cond h (fun b_3 h => (have h := ok_ret h; h)) (fun b_3 h => (ok_cond h (fun b_4 h => (ok_cond h (fun b_5 h => (have h := ok_ret h; h)) (fun b_5 h => (ok_cond h (fun b_6 h => (have h := ok_ret h; h)) (fun b_6 h => (ok_cond h (fun b_7 h => ⟨h_a, ⟨h_b, (have h := ok_ret h; h)⟩⟩) (fun b_7 h => (ok_cond h (fun b_8 h => ⟨h_a, ⟨h_b, (have h := ok_ret h; h)⟩⟩) (fun b_8 h => (ok_cond h (fun b_9 h => ⟨h_a, ⟨h_b, (have h := ok_ret h; h)⟩⟩) (fun b_9 h => ⟨h_a, ⟨h_b, (have h := ok_ret h; h)⟩⟩))))))))))) (fun b_4 h => (have h := ok_ret h; h)))))⟩) (fun b_2 h => (have h := ok_ret h; h)))⟩) (fun b_1 h => (have h := ok_ret h; h)))

/-! 194: loop.example/tablehouse/spec.TruthOk -/
def c194 : Con := ⟨[.dat TInt], fun args hp K => args1 (fun a0 => withD TInt a0 fun n => K (.data Ty.bool (M.inR n 0 2)) []) args hp, .plain⟩
def cons194 : Cons := [(62, c62)]
def inl194 : List (Nat × Inl) := []
@[reducible] def C194 : Ctx := ⟨tab, fun t => memN t cmps, cons194, 5, inl194, 0, false⟩
theorem consOk194 : ConsOk P C194 := by
  refine consOk_cons (enter_ok (fn := f62) func62 (by kernel_rfl) rfl) con62_ok ?_
  exact consOk_nil
def ann194 : Nat → List Dir
  | 0 => [.keep [0]]
  | 1 => [.keep [2]]
  | _ => []
def L194 (n : Int) : Loops := fun id m st_ K => match id with
  | _ => False
theorem vc194 (n : Int) (K : AV → Hp → Prop) : awp C194 (L194 n) ann194 (bodyOf f194) ⟨argEnv 0 [.data TInt n], []⟩ (outK tab false f194.results.toList (hasBox []) (resK (.dat Ty.bool) K)) =
  (K (.data Ty.bool (M.inR n (0 : Int) (2 : Int))) []) := by kernel_rfl
theorem con194_ok : ConOk P 194 c194 := by
  refine con_okR (fn := f194) (code := bodyOf f194) (tab_ok tab_check cmp_check) consOk194 mixed func194 rfl rfl fun args hp K h0 => ?_
  obtain ⟨a0, rfl, rfl, h1⟩ := args1_elim h0
  obtain ⟨n, rfl, h2⟩ := withD_elim h1
  have hK := h2
  have h : ok (F.spec_TruthOk n) (fun r => K (.data Ty.bool r) []) := ok_of_eq (F.spec_TruthOk_eq n) hK
  refine ⟨⟨show (1 : Nat) ≤ 5 by decide, show (1 : Nat) ≤ 1000000 by decide⟩, ann194, (L194 n), (.dat Ty.bool), (no_loops (by kernel_rfl)), ?_⟩
  · rw [vc194 n K]
    exact (have h := ok_ret h; h)

/-! 195: loop.example/tablehouse/spec.l2Sure -/
def c195 : Con := ⟨[.dat TInt], fun args hp K => args1 (fun a0 => withD TInt a0 fun n => (M.inR n 0 2 = true) ∧ K (.data TInt (M.sure n)) []) args hp, .plain⟩
def cons195 : Cons := []
def inl195 : List (Nat × Inl) := []
@[reducible] def C195 : Ctx := ⟨tab, fun t => memN t cmps, cons195, 7, inl195, 0, false⟩
theorem consOk195 : ConsOk P C195 := by
  exact consOk_nil
def ann195 : Nat → List Dir
  | 0 => [.keep [0]]
  | 1 => [.keep [2]]
  | _ => []
def L195 (n : Int) : Loops := fun id m st_ K => match id with
  | _ => False
theorem vc195 (n : Int) (K : AV → Hp → Prop) : awp C195 (L195 n) ann195 (bodyOf f195) ⟨argEnv 0 [.data TInt n], []⟩ (outK tab false f195.results.toList (hasBox []) (resK (.dat TInt) K)) =
  ((0 ≤ n) ∧ (n < ([(0 : Int), (2 : Int), (1 : Int)].length : Int)) ∧ K (.data TInt (nth (t := TInt) [(0 : Int), (2 : Int), (1 : Int)] n)) []) := by kernel_rfl
theorem con195_ok : ConOk P 195 c195 := by
  refine con_okR (fn := f195) (code := bodyOf f195) (tab_ok tab_check cmp_check) consOk195 mixed func195 rfl rfl fun args hp K h0 => ?_
  obtain ⟨a0, rfl, rfl, h1⟩ := args1_elim h0
  obtain ⟨n, rfl, h2⟩ := withD_elim h1
  obtain ⟨p0, hK⟩ := h2
  have h : ok (F.spec_l2Sure n) (fun r => K (.data TInt r) []) := ok_of_eq (F.spec_l2Sure_eq n p0) hK
  refine ⟨⟨show (1 : Nat) ≤ 7 by decide, show (1 : Nat) ≤ 1000000 by decide⟩, ann195, (L195 n), (.dat TInt), (no_loops (by kernel_rfl)), ?_⟩
  · rw [vc195 n K]
    exact ⟨(ok_guard h).1, have h := (ok_guard h).2; ⟨(ok_guard h).1, have h := (ok_guard h).2; (have h := ok_ret h; h)⟩⟩

/-! 160: loop.example/tablehouse/spec.AndOf -/
def c160 : Con := ⟨[.dat TInt, .dat TInt], fun args hp K => args2 (fun a0 a1 => withD TInt a0 fun a => withD TInt a1 fun b => K (.data TInt (M.andOf a b)) []) args hp, .plain⟩
def cons160 : Cons := [(194, c194), (195, c195)]
def inl160 : List (Nat × Inl) := []
@[reducible] def C160 : Ctx := ⟨tab, fun t => memN t cmps, cons160, 19, inl160, 0, false⟩
theorem consOk160 : ConsOk P C160 := by
  refine consOk_cons (enter_ok (fn := f194) func194 (by kernel_rfl) rfl) con194_ok ?_
  refine consOk_cons (enter_ok (fn := f195) func195 (by kernel_rfl) rfl) con195_ok ?_
  exact consOk_nil
def ann160 : Nat → List Dir
  | 0 => [.keep [0, 1]]
  | 1 => [.keep [0, 1, 12]]
  | 2 => [.keep [4]]
  | 3 => [.keep [4]]
  | _ => []
def L160 (a : Int) (b : Int) : Loops := fun id m st_ K => match id with
  | _ => False
theorem vc160 (a : Int) (b : Int) (K : AV → Hp → Prop) : awp C160 (L160 a b) ann160 (bodyOf f160) ⟨argEnv 0 [.data TInt a, .data TInt b], []⟩ (outK tab false f160.results.toList (hasBox []) (resK (.dat TInt) K)) =
  (cond ((!(M.inR a 0 2)) == false) (cond (!(M.inR b 0 2)) (K (.data TInt (-1 : Int)) []) ((M.inR a 0 2 = true) ∧ (M.inR b 0 2 = true) ∧ (M.inR (minI (M.sure a) (M.sure b)) 0 2 = true) ∧ K (.data TInt (M.sure (minI (M.sure a) (M.sure b)))) [])) (K (.data TInt (-1 : Int)) [])) := by kernel_rfl
theorem con160_ok : ConOk P 160 c160 := by
  refine con_okR (fn := f160) (code := bodyOf f160) (tab_ok tab_check cmp_check) consOk160 mixed func160 rfl rfl fun args hp K h0 => ?_
  obtain ⟨a0, a1, rfl, rfl, h1⟩ := args2_elim h0
  obtain ⟨a, rfl, h2⟩ := withD_elim h1
  obtain ⟨b, rfl, h3⟩ := withD_elim h2
  have hK := h3
  have h : ok (F.spec_AndOf a b) (fun r => K (.data TInt r) []) := ok_of_eq (F.spec_AndOf_eq a b) hK
  refine ⟨⟨show (2 : Nat) ≤ 19 by decide, show (2 : Nat) ≤ 1000000 by decide⟩, ann160, (L160 a b), (.dat TInt), (no_loops (by kernel_rfl)), ?_⟩
  · rw [vc160 a b K]
    exact (ok_cond h (fun b_1 h => (ok_cond h (fun b_2 h => (have h := ok_ret h; h)) (fun b_2 h => ⟨(bnf (bgt b_1)), ⟨(bnf b_2), ⟨(ok_guard h).1, have h := (ok_guard h).2; (have h := ok_ret h; h)⟩⟩⟩))) (fun b_1 h => (have h := ok_ret h; h)))

/-! 161: loop.example/tablehouse/spec.TruthOf -/
def c161 : Con := ⟨[.dat TValue], fun args hp K => args1 (fun a0 => withD TValue a0 fun v => (Sm TValue v) ∧ K (.data TInt (M.truthOf v)) []) args hp, .plain⟩
def cons161 : Cons := [(157, c157)]
def inl161 : List (Nat × Inl) := []
@[reducible] def C161 : Ctx := ⟨tab, fun t => memN t cmps, cons161, 23, inl161, 0, false⟩
theorem consOk161 : ConsOk P C161 := by
  refine consOk_cons (enter_ok (fn := f157) func157 (by kernel_rfl) rfl) con157_ok ?_
  exact consOk_nil
def ann161 : Nat → List Dir
  | 0 => [.fixRow 1 TValue, .keep [1]]
  | 1 => [.keep [1, 3]]
  | 2 => [.keep [2]]
  | 3 => [.keep [1, 17]]
  | 4 => [.keep [2]]
  | 5 => [.keep [2]]
  | _ => []
def L161 (v : (TValue).D) : Loops := fun id m st_ K => match id with
  | _ => False
theorem vc161 (v : (TValue).D) (K : AV → Hp → Prop) : awp C161 (L161 v) ann161 (bodyOf f161) ⟨argEnv 0 [.data TValue v], []⟩ (outK tab false f161.results.toList (hasBox []) (resK (.dat TInt) K)) =
  ((Sm TValue v) ∧ cond ((!(M.valueOk v)) == false) (cond ((decide (v.1 = (1 : Int))) == false) (cond (decide (v.1 = (2 : Int))) (K (.data TInt (-1 : Int)) []) (cond (decide (v.1 = (0 : Int))) (K (.data TInt (2 : Int)) []) (K (.data TInt v.2.1) []))) (K (.data TInt (-1 : Int)) [])) (K (.data TInt (-1 : Int)) [])) := by kernel_rfl
theorem con161_ok : ConOk P 161 c161 := by
  refine con_okR (fn := f161) (code := bodyOf f161) (tab_ok tab_check cmp_check) consOk161 mixed func161 rfl rfl fun args hp K h0 => ?_
  obtain ⟨a0, rfl, rfl, h1⟩ := args1_elim h0
  obtain ⟨v, rfl, h2⟩ := withD_elim h1
  obtain ⟨h_v, hK⟩ := h2
  have h : ok (F.spec_TruthOf v) (fun r => K (.data TInt r) []) := ok_of_eq (F.spec_TruthOf_eq v h_v) hK
  refine ⟨⟨show (1 : Nat) ≤ 23 by decide, show (1 : Nat) ≤ 1000000 by decide⟩, ann161, (L161 v), (.dat TInt), (no_loops (by kernel_rfl)), ?_⟩
  · rw [vc161 v K]
    exact ⟨h_v, (ok_cond h (fun b_1 h => (ok_cond h (fun b_2 h => (ok_cond h (fun b_3 h => (have h := ok_ret h; h)) (fun b_3 h => (ok_cond h (fun b_4 h => (have h := ok_ret h; h)) (fun b_4 h => (have h := ok_ret h; h)))))) (fun b_2 h => (have h := ok_ret h; h)))) (fun b_1 h => (have h := ok_ret h; h)))⟩

/-! 162: loop.example/tablehouse/spec.OrOf -/
def c162 : Con := ⟨[.dat TInt, .dat TInt], fun args hp K => args2 (fun a0 a1 => withD TInt a0 fun a => withD TInt a1 fun b => K (.data TInt (M.orOf a b)) []) args hp, .plain⟩
def cons162 : Cons := [(194, c194), (195, c195)]
def inl162 : List (Nat × Inl) := []
@[reducible] def C162 : Ctx := ⟨tab, fun t => memN t cmps, cons162, 19, inl162, 0, false⟩
theorem consOk162 : ConsOk P C162 := by
  refine consOk_cons (enter_ok (fn := f194) func194 (by kernel_rfl) rfl) con194_ok ?_
  refine consOk_cons (enter_ok (fn := f195) func195 (by kernel_rfl) rfl) con195_ok ?_
  exact consOk_nil
def ann162 : Nat → List Dir
  | 0 => [.keep [0, 1]]
  | 1 => [.keep [0, 1, 12]]
  | 2 => [.keep [4]]
  | 3 => [.keep [4]]
  | _ => []
def L162 (a : Int) (b : Int) : Loops := fun id m st_ K => match id with
  | _ => False
theorem vc162 (a : Int) (b : Int) (K : AV → Hp → Prop) : awp C162 (L162 a b) ann162 (bodyOf f162) ⟨argEnv 0 [.data TInt a, .data TInt b], []⟩ (outK tab false f162.results.toList (hasBox []) (resK (.dat TInt) K)) =
  (cond ((!(M.inR a 0 2)) == false) (cond (!(M.inR b 0 2)) (K (.data TInt (-1 : Int)) []) ((M.inR a 0 2 = true) ∧ (M.inR b 0 2 = true) ∧ (M.inR (maxI (M.sure a) (M.sure b)) 0 2 = true) ∧ K (.data TInt (M.sure (maxI (M.sure a) (M.sure b)))) [])) (K (.data TInt (-1 : Int)) [])) := by kernel_rfl
theorem con162_ok : ConOk P 162 c162 := by
  refine con_okR (fn := f162) (code := bodyOf f162) (tab_ok tab_check cmp_check) consOk162 mixed func162 rfl rfl fun args hp K h0 => ?_
  obtain ⟨a0, a1, rfl, rfl, h1⟩ := args2_elim h0
  obtain ⟨a, rfl, h2⟩ := withD_elim h1
  obtain ⟨b, rfl, h3⟩ := withD_elim h2
  have hK := h3
  have h : ok (F.spec_OrOf a b) (fun r => K (.data TInt r) []) := ok_of_eq (F.spec_OrOf_eq a b) hK
  refine ⟨⟨show (2 : Nat) ≤ 19 by decide, show (2 : Nat) ≤ 1000000 by decide⟩, ann162, (L162 a b), (.dat TInt), (no_loops (by kernel_rfl)), ?_⟩
  · rw [vc162 a b K]
    exact (ok_cond h (fun b_1 h => (ok_cond h (fun b_2 h => (have h := ok_ret h; h)) (fun b_2 h => ⟨(bnf (bgt b_1)), ⟨(bnf b_2), ⟨(ok_guard h).1, have h := (ok_guard h).2; (have h := ok_ret h; h)⟩⟩⟩))) (fun b_1 h => (have h := ok_ret h; h)))

/-! 163: loop.example/tablehouse/spec.NotOf -/
def c163 : Con := ⟨[.dat TInt], fun args hp K => args1 (fun a0 => withD TInt a0 fun a => K (.data TInt (M.notOf a)) []) args hp, .plain⟩
def cons163 : Cons := [(194, c194), (195, c195)]
def inl163 : List (Nat × Inl) := []
@[reducible] def C163 : Ctx := ⟨tab, fun t => memN t cmps, cons163, 10, inl163, 0, false⟩
theorem consOk163 : ConsOk P C163 := by
  refine consOk_cons (enter_ok (fn := f194) func194 (by kernel_rfl) rfl) con194_ok ?_
  refine consOk_cons (enter_ok (fn := f195) func195 (by kernel_rfl) rfl) con195_ok ?_
  exact consOk_nil
def ann163 : Nat → List Dir
  | 0 => [.keep [0]]
  | 1 => [.keep [0, 5]]
  | 2 => [.keep [2]]
  | 3 => [.keep [2]]
  | _ => []
def L163 (a : Int) : Loops := fun id m st_ K => match id with
  | _ => False
theorem vc163 (a : Int) (K : AV → Hp → Prop) : awp C163 (L163 a) ann163 (bodyOf f163) ⟨argEnv 0 [.data TInt a], []⟩ (outK tab false f163.results.toList (hasBox []) (resK (.dat TInt) K)) =
  (cond (!(M.inR a 0 2)) (K (.data TInt (-1 : Int)) []) ((M.inR a 0 2 = true) ∧ (M.inR (wrap64 ((2 : Int) - (M.sure a))) 0 2 = true) ∧ K (.data TInt (M.sure (wrap64 ((2 : Int) - (M.sure a))))) [])) := by kernel_rfl
theorem con163_ok : ConOk P 163 c163 := by
  refine con_okR (fn := f163) (code := bodyOf f163) (tab_ok tab_check cmp_check) consOk163 mixed func163 rfl rfl fun args hp K h0 => ?_
  obtain ⟨a0, rfl, rfl, h1⟩ := args1_elim h0
  obtain ⟨a, rfl, h2⟩ := withD_elim h1
  have hK := h2
  have h : ok (F.spec_NotOf a) (fun r => K (.data TInt r) []) := ok_of_eq (F.spec_NotOf_eq a) hK
  refine ⟨⟨show (1 : Nat) ≤ 10 by decide, show (1 : Nat) ≤ 1000000 by decide⟩, ann163, (L163 a), (.dat TInt), (no_loops (by kernel_rfl)), ?_⟩
  · rw [vc163 a K]
    exact (ok_cond h (fun b_1 h => (have h := ok_ret h; h)) (fun b_1 h => ⟨(bnf b_1), ⟨(ok_guard h).1, have h := (ok_guard h).2; (have h := ok_ret h; h)⟩⟩))

/-! 128: loop.example/tablehouse/spec.l4Do -/
def c128 : Con := ⟨[.dat (Ty.sl TValue), .mv, .dat TPart], fun args hp K => hpN 0 false TValue (fun values => args3 (fun a0 a1 a2 => withD (Ty.sl TValue) a0 fun row => withO 0 a1 (withD TPart a2 fun p => (Sm (Ty.sl TValue) row) ∧ (Sm (Ty.sl TValue) values) ∧ (Sm TPart p) ∧ (values.length ≤ 1000) ∧ (M.takes p ≤ (values.length : Int)) ∧ (1 ≤ p.1 ∧ p.1 ≤ 8) ∧ (M.colIn p row.length) ∧ (∀ r : (List (TValue).D), r = (M.valStep row values p) → K (.own 0 none) [(0, .arr false TValue r)]))) args []) hp, .mv⟩
def cons128 : Cons := [(98, c98), (158, c158), (159, c159), (160, c160), (161, c161), (162, c162), (163, c163), (164, c164)]
def inl128 : List (Nat × Inl) := []
@[reducible] def C128 : Ctx := ⟨tab, fun t => memN t cmps, cons128, 145, inl128, 0, true⟩
theorem consOk128 : ConsOk P C128 := by
  refine consOk_cons (enter_ok (fn := f98) func98 (by kernel_rfl) rfl) con98_ok ?_
  refine consOk_cons (enter_ok (fn := f158) func158 (by kernel_rfl) rfl) con158_ok ?_
  refine consOk_cons (enter_ok (fn := f159) func159 (by kernel_rfl) rfl) con159_ok ?_
  refine consOk_cons (enter_ok (fn := f160) func160 (by kernel_rfl) rfl) con160_ok ?_
  refine consOk_cons (enter_ok (fn := f161) func161 (by kernel_rfl) rfl) con161_ok ?_
  refine consOk_cons (enter_ok (fn := f162) func162 (by kernel_rfl) rfl) con162_ok ?_
  refine consOk_cons (enter_ok (fn := f163) func163 (by kernel_rfl) rfl) con163_ok ?_
  refine consOk_cons (enter_ok (fn := f164) func164 (by kernel_rfl) rfl) con164_ok ?_
  exact consOk_nil
def ann128 : Nat → List Dir
  | 0 => [.fixRow 5 TPart, .keep [0, 1, 5]]
  | 1 => [.keep [0, 1, 5, 7]]
  | 2 => [.keep [0, 1, 5, 7, 11]]
  | 3 => [.keep [0, 1, 5, 7, 11, 12]]
  | 4 => [.keep [6]]
  | 5 => [.keep [0, 1, 5, 7, 11, 19]]
  | 6 => [.keep [6]]
  | 7 => [.keep [1, 5, 7, 11, 29]]
  | 8 => [.keep [6]]
  | 9 => [.keep [1, 5, 7, 11, 48]]
  | 10 => [.keep [6]]
  | 11 => [.keep [1, 7, 11, 70]]
  | 12 => [.keep [6]]
  | 13 => [.keep [1, 7, 11, 92]]
  | 14 => [.keep [6]]
  | 15 => [.keep [1, 7, 114]]
  | 16 => [.keep [6]]
  | 17 => [.keep [6]]
  | _ => []
def L128 (row : (List (TValue).D)) (values : (List (TValue).D)) (p : (TPart).D) : Loops := fun id m st_ K => match id with
  | _ => False
theorem vc128 (row : (List (TValue).D)) (values : (List (TValue).D)) (p : (TPart).D) (K : AV → Hp → Prop) : awp C128 (L128 row values p) ann128 (bodyOf f128) ⟨argEnv 0 [.data (Ty.sl TValue) row, .own 0 none, .data TPart p], [(0, .arr false TValue values)]⟩ (outK tab true f128.results.toList (hasBox [(0, .arr false TValue values)]) (resK .raw K)) =
  (cond (decide (p.1 = (1 : Int))) (((values.length + [p.2.2.1].length) * 32 ≤ lim) ∧ K (.own 0 none) [(0, .arr false TValue (values ++ [p.2.2.1]))]) (cond (decide (p.1 = (2 : Int))) ((0 ≤ p.2.1) ∧ (p.2.1 < (row.length : Int)) ∧ ((values.length + [(nth (t := TValue) row p.2.1)].length) * 32 ≤ lim) ∧ K (.own 0 none) [(0, .arr false TValue (values ++ [(nth (t := TValue) row p.2.1)]))]) (cond (decide (p.1 = (3 : Int))) ((0 ≤ (0 : Int)) ∧ ((0 : Int) ≤ wrap64 ((values.length : Int) - (2 : Int))) ∧ (wrap64 ((values.length : Int) - (2 : Int)) ≤ (values.length : Int)) ∧ (wrap64 ((values.length : Int) - (2 : Int)) = wrap64 ((values.length : Int) - (2 : Int))) ∧ (0 ≤ wrap64 ((values.length : Int) - (2 : Int))) ∧ (wrap64 ((values.length : Int) - (2 : Int)) < (values.length : Int)) ∧ (0 ≤ wrap64 ((values.length : Int) - (1 : Int))) ∧ (wrap64 ((values.length : Int) - (1 : Int)) < (values.length : Int)) ∧ (Sm TValue (nth (t := TValue) values (wrap64 ((values.length : Int) - (2 : Int))))) ∧ (Sm TValue (nth (t := TValue) values (wrap64 ((values.length : Int) - (1 : Int))))) ∧ (∀ r_8_14 : (TValue).D, r_8_14 = (M.sum (nth (t := TValue) values (wrap64 ((values.length : Int) - (2 : Int)))) (nth (t := TValue) values (wrap64 ((values.length : Int) - (1 : Int))))) → ((0 : Int) = 0) ∧ (((wrap64 ((values.length : Int) - (2 : Int))).toNat + [r_8_14].length) * 32 ≤ lim) ∧ K (.own 0 none) [(0, .arr false TValue (values.take (wrap64 ((values.length : Int) - (2 : Int))).toNat ++ [r_8_14]))])) (cond (decide (p.1 = (4 : Int))) ((0 ≤ (0 : Int)) ∧ ((0 : Int) ≤ wrap64 ((values.length : Int) - (2 : Int))) ∧ (wrap64 ((values.length : Int) - (2 : Int)) ≤ (values.length : Int)) ∧ (wrap64 ((values.length : Int) - (2 : Int)) = wrap64 ((values.length : Int) - (2 : Int))) ∧ (0 ≤ wrap64 ((values.length : Int) - (2 : Int))) ∧ (wrap64 ((values.length : Int) - (2 : Int)) < (values.length : Int)) ∧ (0 ≤ wrap64 ((values.length : Int) - (1 : Int))) ∧ (wrap64 ((values.length : Int) - (1 : Int)) < (values.length : Int)) ∧ (Sm TValue (nth (t := TValue) values (wrap64 ((values.length : Int) - (2 : Int))))) ∧ (Sm TValue (nth (t := TValue) values (wrap64 ((values.length : Int) - (1 : Int))))) ∧ (∀ r_10_17 : (TValue).D, r_10_17 = (M.valueOf (M.compare p.2.1 (nth (t := TValue) values (wrap64 ((values.length : Int) - (2 : Int)))) (nth (t := TValue) values (wrap64 ((values.length : Int) - (1 : Int)))))) → ((0 : Int) = 0) ∧ (((wrap64 ((values.length : Int) - (2 : Int))).toNat + [r_10_17].length) * 32 ≤ lim) ∧ K (.own 0 none) [(0, .arr false TValue (values.take (wrap64 ((values.length : Int) - (2 : Int))).toNat ++ [r_10_17]))])) (cond (decide (p.1 = (5 : Int))) ((0 ≤ (0 : Int)) ∧ ((0 : Int) ≤ wrap64 ((values.length : Int) - (2 : Int))) ∧ (wrap64 ((values.length : Int) - (2 : Int)) ≤ (values.length : Int)) ∧ (wrap64 ((values.length : Int) - (2 : Int)) = wrap64 ((values.length : Int) - (2 : Int))) ∧ (0 ≤ wrap64 ((values.length : Int) - (2 : Int))) ∧ (wrap64 ((values.length : Int) - (2 : Int)) < (values.length : Int)) ∧ (0 ≤ wrap64 ((values.length : Int) - (1 : Int))) ∧ (wrap64 ((values.length : Int) - (1 : Int)) < (values.length : Int)) ∧ (Sm TValue (nth (t := TValue) values (wrap64 ((values.length : Int) - (2 : Int))))) ∧ (Sm TValue (nth (t := TValue) values (wrap64 ((values.length : Int) - (1 : Int))))) ∧ (∀ r_12_17 : (TValue).D, r_12_17 = (M.valueOf (M.andOf (M.truthOf (nth (t := TValue) values (wrap64 ((values.length : Int) - (2 : Int))))) (M.truthOf (nth (t := TValue) values (wrap64 ((values.length : Int) - (1 : Int))))))) → ((0 : Int) = 0) ∧ (((wrap64 ((values.length : Int) - (2 : Int))).toNat + [r_12_17].length) * 32 ≤ lim) ∧ K (.own 0 none) [(0, .arr false TValue (values.take (wrap64 ((values.length : Int) - (2 : Int))).toNat ++ [r_12_17]))])) (cond (decide (p.1 = (6 : Int))) ((0 ≤ (0 : Int)) ∧ ((0 : Int) ≤ wrap64 ((values.length : Int) - (2 : Int))) ∧ (wrap64 ((values.length : Int) - (2 : Int)) ≤ (values.length : Int)) ∧ (wrap64 ((values.length : Int) - (2 : Int)) = wrap64 ((values.length : Int) - (2 : Int))) ∧ (0 ≤ wrap64 ((values.length : Int) - (2 : Int))) ∧ (wrap64 ((values.length : Int) - (2 : Int)) < (values.length : Int)) ∧ (0 ≤ wrap64 ((values.length : Int) - (1 : Int))) ∧ (wrap64 ((values.length : Int) - (1 : Int)) < (values.length : Int)) ∧ (Sm TValue (nth (t := TValue) values (wrap64 ((values.length : Int) - (2 : Int))))) ∧ (Sm TValue (nth (t := TValue) values (wrap64 ((values.length : Int) - (1 : Int))))) ∧ (∀ r_14_17 : (TValue).D, r_14_17 = (M.valueOf (M.orOf (M.truthOf (nth (t := TValue) values (wrap64 ((values.length : Int) - (2 : Int))))) (M.truthOf (nth (t := TValue) values (wrap64 ((values.length : Int) - (1 : Int))))))) → ((0 : Int) = 0) ∧ (((wrap64 ((values.length : Int) - (2 : Int))).toNat + [r_14_17].length) * 32 ≤ lim) ∧ K (.own 0 none) [(0, .arr false TValue (values.take (wrap64 ((values.length : Int) - (2 : Int))).toNat ++ [r_14_17]))])) (cond (decide (p.1 = (7 : Int))) ((0 ≤ (0 : Int)) ∧ ((0 : Int) ≤ wrap64 ((values.length : Int) - (1 : Int))) ∧ (wrap64 ((values.length : Int) - (1 : Int)) ≤ (values.length : Int)) ∧ (wrap64 ((values.length : Int) - (1 : Int)) = wrap64 ((values.length : Int) - (1 : Int))) ∧ (0 ≤ wrap64 ((values.length : Int) - (1 : Int))) ∧ (wrap64 ((values.length : Int) - (1 : Int)) < (values.length : Int)) ∧ (Sm TValue (nth (t := TValue) values (wrap64 ((values.length : Int) - (1 : Int))))) ∧ (∀ r_16_11 : (TValue).D, r_16_11 = (M.valueOf (M.notOf (M.truthOf (nth (t := TValue) values (wrap64 ((values.length : Int) - (1 : Int))))))) → ((0 : Int) = 0) ∧ (((wrap64 ((values.length : Int) - (1 : Int))).toNat + [r_16_11].length) * 32 ≤ lim) ∧ K (.own 0 none) [(0, .arr false TValue (values.take (wrap64 ((values.length : Int) - (1 : Int))).toNat ++ [r_16_11]))])) ((0 ≤ (0 : Int)) ∧ ((0 : Int) ≤ wrap64 ((values.length : Int) - (1 : Int))) ∧ (wrap64 ((values.length : Int) - (1 : Int)) ≤ (values.length : Int)) ∧ (wrap64 ((values.length : Int) - (1 : Int)) = wrap64 ((values.length : Int) - (1 : Int))) ∧ (0 ≤ wrap64 ((values.length : Int) - (1 : Int))) ∧ (wrap64 ((values.length : Int) - (1 : Int)) < (values.length : Int)) ∧ (∀ r_17_12 : (TValue).D, r_17_12 = (M.valueOf (M.bool (decide ((nth (t := TValue) values (wrap64 ((values.length : Int) - (1 : Int)))).1 = (0 : Int))))) → ((0 : Int) = 0) ∧ (((wrap64 ((values.length : Int) - (1 : Int))).toNat + [r_17_12].length) * 32 ≤ lim) ∧ K (.own 0 none) [(0, .arr false TValue (values.take (wrap64 ((values.length : Int) - (1 : Int))).toNat ++ [r_17_12]))]))))))))) := by kernel_rfl
theorem con128_ok : ConOk P 128 c128 := by
  refine con_okR (fn := f128) (code := bodyOf f128) (tab_ok tab_check cmp_check) consOk128 mixed func128 rfl rfl fun args hp K h0 => ?_
  unfold c128 at h0
  dsimp only at h0
  obtain ⟨values, rfl, h00⟩ := hpN_elim (n := 0) (d := false) (t := TValue) h0
  obtain ⟨a0, a1, a2, rfl, _, h1⟩ := args3_elim h00
  obtain ⟨row, rfl, h2⟩ := withD_elim h1
  obtain ⟨rfl, h3⟩ := withO_elim h2
  obtain ⟨p, rfl, h4⟩ := withD_elim h3
  obtain ⟨h_row, h_values, h_p, p0, p1, p2, p3, hK⟩ := h4
  have h : ok (F.spec_l4Do row values p) (fun r => K (.own 0 none) [(0, .arr false TValue r)]) := ok_of_eq (F.spec_l4Do_eq row values p h_row h_values h_p p0 p1 p2 p3) (hK _ rfl)
  refine ⟨⟨show (3 : Nat) ≤ 145 by decide, show (3 : Nat) ≤ 1000000 by decide⟩, ann128, (L128 row values p), .raw, (no_loops (by kernel_rfl)), ?_⟩
  · rw [vc128 row values p K]
    exact (ok_cond h (fun b_1 h => ⟨(sm_lim2 h_values (sm_one h_p.2.2.1) rfl), (have h := ok_ret h; h)⟩) (fun b_1 h => (ok_cond h (fun b_2 h => ⟨(ok_guard h).1, have h := (ok_guard h).2; ⟨(ok_guard h).1, have h := (ok_guard h).2; ⟨(sm_lim2 h_values (sm_one (sm_nth h_row p.2.1)) rfl), (have h := ok_ret h; h)⟩⟩⟩) (fun b_2 h => (ok_cond h (fun b_5 h => ⟨(Int.natCast_nonneg 0), ⟨(ok_guard h).1, have h := (ok_guard h).2; ⟨(ok_guard h).1, have h := (ok_guard h).2; ⟨rfl, ⟨(ok_guard h).1, have h := (ok_guard h).2; ⟨(ok_guard h).1, have h := (ok_guard h).2; ⟨(ok_guard h).1, have h := (ok_guard h).2; ⟨(ok_guard h).1, have h := (ok_guard h).2; ⟨(sm_nth h_values (wrap64 ((values.length : Int) - (2 : Int)))), ⟨(sm_nth h_values (wrap64 ((values.length : Int) - (1 : Int)))), (fun r_8_14 e_r_8_14 => have h := ok_let h r_8_14 e_r_8_14; ⟨rfl, ⟨(ok_guard h).1, have h := (ok_guard h).2; (have h := ok_ret h; h)⟩⟩)⟩⟩⟩⟩⟩⟩⟩⟩⟩⟩) (fun b_5 h => (ok_cond h (fun b_13 h => ⟨(Int.natCast_nonneg 0), ⟨(ok_guard h).1, have h := (ok_guard h).2; ⟨(ok_guard h).1, have h := (ok_guard h).2; ⟨rfl, ⟨(ok_guard h).1, have h := (ok_guard h).2; ⟨(ok_guard h).1, have h := (ok_guard h).2; ⟨(ok_guard h).1, have h := (ok_guard h).2; ⟨(ok_guard h).1, have h := (ok_guard h).2; ⟨(sm_nth h_values (wrap64 ((values.length : Int) - (2 : Int)))), ⟨(sm_nth h_values (wrap64 ((values.length : Int) - (1 : Int)))), (fun r_10_17 e_r_10_17 => have h := ok_let h r_10_17 e_r_10_17; ⟨rfl, ⟨(ok_guard h).1, have h := (ok_guard h).2; (have h := ok_ret h; h)⟩⟩)⟩⟩⟩⟩⟩⟩⟩⟩⟩⟩) (fun b_13 h => (ok_cond h (fun b_21 h => ⟨(Int.natCast_nonneg 0), ⟨(ok_guard h).1, have h := (ok_guard h).2; ⟨(ok_guard h).1, have h := (ok_guard h).2; ⟨rfl, ⟨(ok_guard h).1, have h := (ok_guard h).2; ⟨(ok_guard h).1, have h := (ok_guard h).2; ⟨(ok_guard h).1, have h := (ok_guard h).2; ⟨(ok_guard h).1, have h := (ok_guard h).2; ⟨(sm_nth h_values (wrap64 ((values.length : Int) - (2 : Int)))), ⟨(sm_nth h_values (wrap64 ((values.length : Int) - (1 : Int)))), (fun r_12_17 e_r_12_17 => have h := ok_let h r_12_17 e_r_12_17; ⟨rfl, ⟨(ok_guard h).1, have h := (ok_guard h).2; (have h := ok_ret h; h)⟩⟩)⟩⟩⟩⟩⟩⟩⟩⟩⟩⟩) (fun b_21 h => (ok_cond h (fun b_29 h => ⟨(Int.natCast_nonneg 0), ⟨(ok_guard h).1, have h := (ok_guard h).2; ⟨(ok_guard h).1, have h := (ok_guard h).2; ⟨rfl, ⟨(ok_guard h).1, have h := (ok_guard h).2; ⟨(ok_guard h).1, have h := (ok_guard h).2; ⟨(ok_guard h).1, have h := (ok_guard h).2; ⟨(ok_guard h).1, have h := (ok_guard h).2; ⟨(sm_nth h_values (wrap64 ((values.length : Int) - (2 : Int)))), ⟨(sm_nth h_values (wrap64 ((values.length : Int) - (1 : Int)))), (fun r_14_17 e_r_14_17 => have h := ok_let h r_14_17 e_r_14_17; ⟨rfl, ⟨(ok_guard h).1, have h := (ok_guard h).2; (have h := ok_ret h; h)⟩⟩)⟩⟩⟩⟩⟩⟩⟩⟩⟩⟩) (fun b_29 h => (ok_cond h (fun b_37 h => ⟨(Int.natCast_nonneg 0), ⟨(ok_guard h).1, have h := (ok_guard h).2; ⟨(ok_guard h).1, have h := (ok_guard h).2; ⟨rfl, ⟨(ok_guard h).1, have h := (ok_guard h).2; ⟨(ok_guard h).1, have h := (ok_guard h).2; ⟨(sm_nth h_values (wrap64 ((values.length : Int) - (1 : Int)))), (fun r_16_11 e_r_16_11 => have h := ok_let h r_16_11 e_r_16_11; ⟨rfl, ⟨(ok_guard h).1, have h := (ok_guard h).2; (have h := ok_ret h; h)⟩⟩)⟩⟩⟩⟩⟩⟩⟩) (fun b_37 h => ⟨(Int.natCast_nonneg 0), ⟨(ok_guard h).1, have h := (ok_guard h).2; ⟨(ok_guard h).1, have h := (ok_guard h).2; ⟨rfl, ⟨(ok_guard h).1, have h := (ok_guard h).2; ⟨(ok_guard h).1, have h := (ok_guard h).2; (fun r_17_12 e_r_17_12 => have h := ok_let h r_17_12 e_r_17_12; ⟨rfl, ⟨(ok_guard h).1, have h := (ok_guard h).2; (have h := ok_ret h; h)⟩⟩)⟩⟩⟩⟩⟩⟩))))))))))))))

/-! 97: loop.example/tablehouse/spec.l4Value -/
def c97 : Con := ⟨[.dat (Ty.sl TValue), .dat (Ty.sl TPart)], fun args hp K => args2 (fun a0 a1 => withD (Ty.sl TValue) a0 fun row => withD (Ty.sl TPart) a1 fun e => (Sm (Ty.sl TValue) row) ∧ (Sm (Ty.sl TPart) e) ∧ (M.exprSafe row.length e) ∧ (∀ r : (TValue).D, r = (M.exprValue row e) → K (.data TValue r) [])) args hp, .plain⟩
def cons97 : Cons := [(128, c128)]
def inl97 : List (Nat × Inl) := []
@[reducible] def C97 : Ctx := ⟨tab, fun t => memN t cmps, cons97, 24, inl97, 0, false⟩
theorem consOk97 : ConsOk P C97 := by
  refine consOk_cons (enter_ok (fn := f128) func128 (by kernel_rfl) rfl) con128_ok ?_
  exact consOk_nil
def ann97 : Nat → List Dir
  | 0 => [.keep [0, 1, 4]]
  | 1 => [.keep [0, 1, 4, 5]]
  | 2 => [.keep [0, 1, 4, 5, 6]]
  | 3 => [.keep [0, 1, 4, 5, 6, 11]]
  | 4 => [.keep [0, 1, 4, 5, 6]]
  | 5 => [.keep [0, 1, 4, 5, 6]]
  | 6 => [.keep [4]]
  | 100000 => [.keep [4, 5]]
  | _ => []
@[reducible] def LP97_0 (row : (List (TValue).D)) (e : (List (TPart).D)) (m : Nat) (st_ : St) (K : X → St → Prop) : Prop := (True) ∧ LoopE (t := TPart) (fun (i0 : Int) (v0 : (List (TValue).D)) => (⟨[(0, .data (Ty.sl TValue) row), (1, .data (Ty.sl TPart) e), (4, .ptr 4 0), (5, .own 7 none), (6, .data TInt i0)], [(4, .box [.data TInt (0 : Int), .data TInt (0 : Int), .data Ty.str (⟨#[]⟩ : ByteArray)]), (7, .arr false TValue v0)]⟩ : St)) e (F.spec_l4Value_l0 row e) (fun v0 : (List (TValue).D) => True) (outD (fun v0 : (List (TValue).D) => True → K (.exit 0) (⟨[(4, .ptr 4 0), (5, .own 7 none)], [(4, .box [.data TInt (0 : Int), .data TInt (0 : Int), .data Ty.str (⟨#[]⟩ : ByteArray)]), (7, .arr false TValue v0)]⟩ : St)) (fun _ => False)) m st_
def L97 (row : (List (TValue).D)) (e : (List (TPart).D)) : Loops := fun id m st_ K => match id with
  | 0 => LP97_0 row e m st_ K
  | _ => False
theorem vc97 (row : (List (TValue).D)) (e : (List (TPart).D)) (K : AV → Hp → Prop) : awp C97 (L97 row e) ann97 (bodyOf f97) ⟨argEnv 0 [.data (Ty.sl TValue) row, .data (Ty.sl TPart) e], []⟩ (outK tab false f97.results.toList (hasBox []) (resK (.dat TValue) K)) =
  ((∃ m_, (True) ∧ LoopE (t := TPart) (fun (i0 : Int) (v0 : (List (TValue).D)) => (⟨[(0, .data (Ty.sl TValue) row), (1, .data (Ty.sl TPart) e), (4, .ptr 4 0), (5, .own 7 none), (6, .data TInt i0)], [(4, .box [.data TInt (0 : Int), .data TInt (0 : Int), .data Ty.str (⟨#[]⟩ : ByteArray)]), (7, .arr false TValue v0)]⟩ : St)) e (F.spec_l4Value_l0 row e) (fun v0 : (List (TValue).D) => True) (outD (fun v0 : (List (TValue).D) => True → (0 ≤ (0 : Int)) ∧ ((0 : Int) < (v0.length : Int)) ∧ K (.data TValue (nth (t := TValue) v0 (0 : Int))) []) (fun _ => False)) m_ (⟨[(0, .data (Ty.sl TValue) row), (1, .data (Ty.sl TPart) e), (4, .ptr 4 0), (5, .own 7 none), (6, .data TInt (0 : Int))], [(4, .box [.data TInt (0 : Int), .data TInt (0 : Int), .data Ty.str (⟨#[]⟩ : ByteArray)]), (7, .arr false TValue [])]⟩ : St))) := by kernel_rfl
theorem lvc97_0 (row : (List (TValue).D)) (e : (List (TPart).D))  (i0 : Int) (v0 : (List (TValue).D)) (m : Nat) (K : X → St → Prop) : awp C97 (L97 row e) ann97 (loopAt (bodyOf f97) 0) (⟨[(0, .data (Ty.sl TValue) row), (1, .data (Ty.sl TPart) e), (4, .ptr 4 0), (5, .own 7 none), (6, .data TInt i0)], [(4, .box [.data TInt (0 : Int), .data TInt (0 : Int), .data Ty.str (⟨#[]⟩ : ByteArray)]), (7, .arr false TValue v0)]⟩ : St) (thenW (fun s' => ∃ m', m' < m ∧ (L97 row e) 0 m' s' K) (exitN 0 (ann97 (behind 0)) K)) =
  (cond (decide (i0 < (e.length : Int))) ((0 ≤ i0) ∧ (i0 < (e.length : Int)) ∧ (Sm (Ty.sl TValue) row) ∧ (Sm (Ty.sl TValue) v0) ∧ (Sm TPart (nth (t := TPart) e i0)) ∧ (v0.length ≤ 1000) ∧ (M.takes (nth (t := TPart) e i0) ≤ (v0.length : Int)) ∧ (1 ≤ (nth (t := TPart) e i0).1 ∧ (nth (t := TPart) e i0).1 ≤ 8) ∧ (M.colIn (nth (t := TPart) e i0) row.length) ∧ (∀ r_5_6 : (List (TValue).D), r_5_6 = (M.valStep row v0 (nth (t := TPart) e i0)) → (∃ m_, m_ < m ∧ (L97 row e) 0 m_ (⟨[(0, .data (Ty.sl TValue) row), (1, .data (Ty.sl TPart) e), (4, .ptr 4 0), (5, .own 7 none), (6, .data TInt (wrap64 (i0 + (1 : Int))))], [(4, .box [.data TInt (0 : Int), .data TInt (0 : Int), .data Ty.str (⟨#[]⟩ : ByteArray)]), (7, .arr false TValue r_5_6)]⟩ : St) K))) (K (.exit 0) (⟨[(4, .ptr 4 0), (5, .own 7 none)], [(4, .box [.data TInt (0 : Int), .data TInt (0 : Int), .data Ty.str (⟨#[]⟩ : ByteArray)]), (7, .arr false TValue v0)]⟩ : St))) := by kernel_rfl
theorem con97_ok : ConOk P 97 c97 := by
  refine con_okR (fn := f97) (code := bodyOf f97) (tab_ok tab_check cmp_check) consOk97 mixed func97 rfl rfl fun args hp K h0 => ?_
  obtain ⟨a0, a1, rfl, rfl, h1⟩ := args2_elim h0
  obtain ⟨row, rfl, h2⟩ := withD_elim h1
  obtain ⟨e, rfl, h3⟩ := withD_elim h2
  obtain ⟨h_row, h_e, p0, hK⟩ := h3
  have h : ok (F.spec_l4Value row e) (fun r => K (.data TValue r) []) := ok_of_eq (F.spec_l4Value_eq row e h_row h_e p0) (hK _ rfl)
  refine ⟨⟨show (2 : Nat) ≤ 24 by decide, show (2 : Nat) ≤ 1000000 by decide⟩, ann97, (L97 row e), (.dat TValue), (loopsN1 (i0 := 0) (by kernel_rfl) ?_), ?_⟩
  · clear h
    intro m_ s_ K_ h
    obtain ⟨hc0, i0, v0, rfl, hl0, rfl, hv0, h⟩ := (show LP97_0 row e m_ s_ K_ from h)
    rw [lvc97_0 row e i0 v0 _ K_]
    exact (loopE_step (t := TPart) hl0 h (fun ht0 h => ⟨hl0, ⟨ht0, ⟨h_row, ⟨(ok_guard h).1, have h := (ok_guard h).2; ⟨(sm_nth h_e i0), ⟨(ok_guard h).1, have h := (ok_guard h).2; ⟨(ok_guard h).1, have h := (ok_guard h).2; ⟨(ok_guard h).1, have h := (ok_guard h).2; ⟨(ok_guard h).1, have h := (ok_guard h).2; (fun r_5_6 e_r_5_6 => have h := ok_let h r_5_6 e_r_5_6; (loopE_next (t := TPart) (fun m hm => (show LP97_0 row e m _ _ from ⟨hc0, hm⟩)) r_5_6 rfl hl0 ht0 (sm_len h_e) trivial (have h := ok_ret h; h)))⟩⟩⟩⟩⟩⟩⟩⟩⟩) (fun h => (h trivial)))
  · rw [vc97 row e K]
    exact (loopE_start (t := TPart) (fun m hm => ⟨trivial, hm⟩) [] rfl trivial (ok_then h (fun v0 h hv0 => ⟨(Int.natCast_nonneg 0), ⟨(ok_guard h).1, have h := (ok_guard h).2; (have h := ok_ret h; h)⟩⟩) (fun _ h => h.elim)))

/-! 53: loop.example/tablehouse/spec.l6Holds -/
def c53 : Con := ⟨[.dat (Ty.sl TValue), .dat (Ty.sl TPart)], fun args hp K => args2 (fun a0 a1 => withD (Ty.sl TValue) a0 fun row => withD (Ty.sl TPart) a1 fun e => (Sm (Ty.sl TValue) row) ∧ (Sm (Ty.sl TPart) e) ∧ (M.exprSafe row.length e) ∧ K (.data Ty.bool (M.holds row e)) []) args hp, .plain⟩
def cons53 : Cons := [(97, c97), (98, c98)]
def inl53 : List (Nat × Inl) := []
@[reducible] def C53 : Ctx := ⟨tab, fun t => memN t cmps, cons53, 10, inl53, 0, false⟩
theorem consOk53 : ConsOk P C53 := by
  refine consOk_cons (enter_ok (fn := f97) func97 (by kernel_rfl) rfl) con97_ok ?_
  refine consOk_cons (enter_ok (fn := f98) func98 (by kernel_rfl) rfl) con98_ok ?_
  exact consOk_nil
def ann53 : Nat → List Dir
  | 0 => [.keep [0, 1]]
  | 1 => [.keep [4]]
  | _ => []
def L53 (row : (List (TValue).D)) (e : (List (TPart).D)) : Loops := fun id m st_ K => match id with
  | _ => False
theorem vc53 (row : (List (TValue).D)) (e : (List (TPart).D)) (K : AV → Hp → Prop) : awp C53 (L53 row e) ann53 (bodyOf f53) ⟨argEnv 0 [.data (Ty.sl TValue) row, .data (Ty.sl TPart) e], []⟩ (outK tab false f53.results.toList (hasBox []) (resK (.dat Ty.bool) K)) =
  ((Sm (Ty.sl TValue) row) ∧ (Sm (Ty.sl TPart) e) ∧ (M.exprSafe row.length e) ∧ (∀ r_1_2 : (TValue).D, r_1_2 = (M.exprValue row e) → (∀ r_1_3 : (TValue).D, r_1_3 = (M.valueOf (1 : Int)) → K (.data Ty.bool (Ty.beq TValue r_1_2 r_1_3)) []))) := by kernel_rfl
theorem con53_ok : ConOk P 53 c53 := by
  refine con_okR (fn := f53) (code := bodyOf f53) (tab_ok tab_check cmp_check) consOk53 mixed func53 rfl rfl fun args hp K h0 => ?_
  obtain ⟨a0, a1, rfl, rfl, h1⟩ := args2_elim h0
  obtain ⟨row, rfl, h2⟩ := withD_elim h1
  obtain ⟨e, rfl, h3⟩ := withD_elim h2
  obtain ⟨h_row, h_e, p0, hK⟩ := h3
  have h : ok (F.spec_l6Holds row e) (fun r => K (.data Ty.bool r) []) := ok_of_eq (F.spec_l6Holds_eq row e h_row h_e p0) hK
  refine ⟨⟨show (2 : Nat) ≤ 10 by decide, show (2 : Nat) ≤ 1000000 by decide⟩, ann53, (L53 row e), (.dat Ty.bool), (no_loops (by kernel_rfl)), ?_⟩
  · rw [vc53 row e K]
    exact ⟨h_row, ⟨h_e, ⟨p0, (fun r_1_2 e_r_1_2 => have h := ok_let h r_1_2 e_r_1_2; (fun r_1_3 e_r_1_3 => have h := ok_let h r_1_3 e_r_1_3; (have h := ok_ret h; h)))⟩⟩⟩

/-! 20: loop.example/tablehouse/spec.TablesSeen -/
def c20 : Con := ⟨[.dat (Ty.sl TTable), .dat (Ty.sl TGuard)], fun args hp K => args2 (fun a0 a1 => withD (Ty.sl TTable) a0 fun tables => withD (Ty.sl TGuard) a1 fun guards => (Sm (Ty.sl TTable) tables) ∧ (Sm (Ty.sl TGuard) guards) ∧ (∀ r : (List (TTable).D), r = (M.tablesSeen tables guards) → K (.own 0 none) [(0, .arr false TTable r)])) args hp, .plain⟩
def cons20 : Cons := [(51, c51), (52, c52), (53, c53)]
def inl20 : List (Nat × Inl) := []
@[reducible] def C20 : Ctx := ⟨tab, fun t => memN t cmps, cons20, 70, inl20, 0, false⟩
theorem consOk20 : ConsOk P C20 := by
  refine consOk_cons (enter_ok (fn := f51) func51 (by kernel_rfl) rfl) con51_ok ?_
  refine consOk_cons (enter_ok (fn := f52) func52 (by kernel_rfl) rfl) con52_ok ?_
  refine consOk_cons (enter_ok (fn := f53) func53 (by kernel_rfl) rfl) con53_ok ?_
  exact consOk_nil
def ann20 : Nat → List Dir
  | 0 => [.keep [0, 1]]
  | 1 => [.keep [0, 1, 13]]
  | 2 => [.keep [4]]
  | 3 => [.weak 16, .keep [1, 5]]
  | 4 => [.keep [1, 5, 6]]
  | 5 => [.keep [1, 5, 6, 20]]
  | 6 => [.keep [1, 5, 6]]
  | 7 => [.keep [1, 5, 6, 7]]
  | 8 => [.keep [1, 5, 6, 7, 8]]
  | 9 => [.keep [1, 5, 6, 7, 8, 9]]
  | 10 => [.keep [1, 5, 6, 7, 8, 9, 36]]
  | 11 => [.keep [1, 5, 6, 7, 8, 9]]
  | 12 => [.keep [1, 5, 6, 7, 8, 9, 52]]
  | 13 => [.keep [1, 5, 6, 7, 8, 9]]
  | 14 => [.keep [1, 5, 6]]
  | 15 => [.keep [4]]
  | 100000 => [.keep [5]]
  | 100002 => [.keep [1, 5, 6, 7, 8]]
  | _ => []
@[reducible] def LP20_0 (tables : (List (TTable).D)) (guards : (List (TGuard).D)) (m : Nat) (st_ : St) (K : X → St → Prop) : Prop := (True) ∧ LoopI (fun (i0 : Int) (v0 : (List (TTable).D)) => (⟨[(1, .data (Ty.sl TGuard) guards), (5, .own 16 none), (6, .data TInt i0)], [(16, .arr false TTable v0)]⟩ : St)) (0 : Int) (guards.length : Int) (F.spec_TablesSeen_l0 tables guards) (fun v0 : (List (TTable).D) => True) (outD (fun v0 : (List (TTable).D) => True → K (.exit 0) (⟨[(5, .own 16 none)], [(16, .arr false TTable v0)]⟩ : St)) (fun _ => False)) m st_
@[reducible] def LP20_2 (tables : (List (TTable).D)) (guards : (List (TGuard).D)) (m : Nat) (st_ : St) (K : X → St → Prop) : Prop := ∃ c2_0 : Int, ∃ c2_1 : Int, ∃ c2_2 : (List (TTable).D), (True) ∧ LoopW (fun v2 : Int × (List (List (TValue).D)) => (⟨[(1, .data (Ty.sl TGuard) guards), (5, .own 16 none), (6, .data TInt c2_0), (7, .data TInt c2_1), (8, .own 28 none), (9, .data TInt v2.1)], [(16, .arr false TTable c2_2), (28, .arr false (Ty.sl TValue) v2.2)]⟩ : St)) (F.spec_TablesSeen_l2 tables guards c2_0 c2_1 c2_2) (fun v2 : Int × (List (List (TValue).D)) => True) ((fun e2 : (List (List (TValue).D)) => True → K (.exit 2) (⟨[(1, .data (Ty.sl TGuard) guards), (5, .own 16 none), (6, .data TInt c2_0), (7, .data TInt c2_1), (8, .own 28 none)], [(16, .arr false TTable c2_2), (28, .arr false (Ty.sl TValue) e2)]⟩ : St))) m st_
def L20 (tables : (List (TTable).D)) (guards : (List (TGuard).D)) : Loops := fun id m st_ K => match id with
  | 0 => LP20_0 tables guards m st_ K
  | 2 => LP20_2 tables guards m st_ K
  | _ => False
theorem vc20 (tables : (List (TTable).D)) (guards : (List (TGuard).D)) (K : AV → Hp → Prop) : awp C20 (L20 tables guards) ann20 (bodyOf f20) ⟨argEnv 0 [.data (Ty.sl TTable) tables, .data (Ty.sl TGuard) guards], []⟩ (outK tab false f20.results.toList (hasBox []) (resK .raw K)) =
  ((Sm (Ty.sl TTable) tables) ∧ (Sm (Ty.sl TGuard) guards) ∧ cond (!(M.guardsOk tables guards)) (K (.own 0 none) [(0, .arr false TTable [])]) ((Sm (Ty.sl TTable) tables) ∧ (∀ r_3_1 : (List (TTable).D), r_3_1 = (tables) → (∃ m_, (True) ∧ LoopI (fun (i0 : Int) (v0 : (List (TTable).D)) => (⟨[(1, .data (Ty.sl TGuard) guards), (5, .own 16 none), (6, .data TInt i0)], [(16, .arr false TTable v0)]⟩ : St)) (0 : Int) (guards.length : Int) (F.spec_TablesSeen_l0 tables guards) (fun v0 : (List (TTable).D) => True) (outD (fun v0 : (List (TTable).D) => True → K (.own 0 none) [(0, .arr false TTable v0)]) (fun _ => False)) m_ (⟨[(1, .data (Ty.sl TGuard) guards), (5, .own 16 none), (6, .data TInt (0 : Int))], [(16, .arr false TTable r_3_1)]⟩ : St))))) := by kernel_rfl
theorem lvc20_0 (tables : (List (TTable).D)) (guards : (List (TGuard).D))  (i0 : Int) (v0 : (List (TTable).D)) (m : Nat) (K : X → St → Prop) : awp C20 (L20 tables guards) ann20 (loopAt (bodyOf f20) 0) (⟨[(1, .data (Ty.sl TGuard) guards), (5, .own 16 none), (6, .data TInt i0)], [(16, .arr false TTable v0)]⟩ : St) (thenW (fun s' => ∃ m', m' < m ∧ (L20 tables guards) 0 m' s' K) (exitN 0 (ann20 (behind 0)) K)) =
  (cond (decide (i0 < (guards.length : Int))) ((0 ≤ i0) ∧ (i0 < (guards.length : Int)) ∧ (∃ m_, ∃ c2_0 : Int, ∃ c2_1 : Int, ∃ c2_2 : (List (TTable).D), (True) ∧ LoopW (fun v2 : Int × (List (List (TValue).D)) => (⟨[(1, .data (Ty.sl TGuard) guards), (5, .own 16 none), (6, .data TInt c2_0), (7, .data TInt c2_1), (8, .own 28 none), (9, .data TInt v2.1)], [(16, .arr false TTable c2_2), (28, .arr false (Ty.sl TValue) v2.2)]⟩ : St)) (F.spec_TablesSeen_l2 tables guards c2_0 c2_1 c2_2) (fun v2 : Int × (List (List (TValue).D)) => True) ((fun e2 : (List (List (TValue).D)) => True → (0 ≤ c2_1) ∧ (c2_1 < (c2_2.length : Int)) ∧ (∃ m_, m_ < m ∧ (L20 tables guards) 0 m_ (⟨[(1, .data (Ty.sl TGuard) guards), (5, .own 16 none), (6, .data TInt (wrap64 (c2_0 + (1 : Int))))], [(16, .arr false TTable (c2_2.set c2_1.toNat ((nth (t := TTable) c2_2 c2_1).1, (e2, ()))))]⟩ : St) K))) m_ (⟨[(1, .data (Ty.sl TGuard) guards), (5, .own 16 none), (6, .data TInt i0), (7, .data TInt ((nth (t := TGuard) guards i0).1)), (8, .own 28 none), (9, .data TInt (0 : Int))], [(16, .arr false TTable v0), (28, .arr false (Ty.sl TValue) [])]⟩ : St))) (K (.exit 0) (⟨[(5, .own 16 none)], [(16, .arr false TTable v0)]⟩ : St))) := by kernel_rfl
theorem lvc20_1 (tables : (List (TTable).D)) (guards : (List (TGuard).D)) (c2_0 : Int) (c2_1 : Int) (c2_2 : (List (TTable).D)) (v2 : Int × (List (List (TValue).D))) (m : Nat) (K : X → St → Prop) : awp C20 (L20 tables guards) ann20 (loopAt (bodyOf f20) 1) (⟨[(1, .data (Ty.sl TGuard) guards), (5, .own 16 none), (6, .data TInt c2_0), (7, .data TInt c2_1), (8, .own 28 none), (9, .data TInt v2.1)], [(16, .arr false TTable c2_2), (28, .arr false (Ty.sl TValue) v2.2)]⟩ : St) (thenW (fun s' => ∃ m', m' < m ∧ (L20 tables guards) 2 m' s' K) (exitN 2 (ann20 (behind 2)) K)) =
  ((0 ≤ c2_1) ∧ (c2_1 < (c2_2.length : Int)) ∧ cond (decide (v2.1 < ((((nth (t := TTable) c2_2 c2_1).2).1).length : Int))) ((0 ≤ c2_1) ∧ (c2_1 < (c2_2.length : Int)) ∧ (0 ≤ v2.1) ∧ (v2.1 < ((((nth (t := TTable) c2_2 c2_1).2).1).length : Int)) ∧ (0 ≤ c2_0) ∧ (c2_0 < (guards.length : Int)) ∧ (Sm (Ty.sl TValue) (nth (t := (Ty.sl TValue)) (((nth (t := TTable) c2_2 c2_1).2).1) v2.1)) ∧ (Sm (Ty.sl TPart) (((nth (t := TGuard) guards c2_0).2).1)) ∧ (M.exprSafe (nth (t := (Ty.sl TValue)) (((nth (t := TTable) c2_2 c2_1).2).1) v2.1).length (((nth (t := TGuard) guards c2_0).2).1)) ∧ cond (M.holds (nth (t := (Ty.sl TValue)) (((nth (t := TTable) c2_2 c2_1).2).1) v2.1) (((nth (t := TGuard) guards c2_0).2).1)) ((0 ≤ c2_1) ∧ (c2_1 < (c2_2.length : Int)) ∧ (0 ≤ v2.1) ∧ (v2.1 < ((((nth (t := TTable) c2_2 c2_1).2).1).length : Int)) ∧ ((v2.2.length + [(nth (t := (Ty.sl TValue)) (((nth (t := TTable) c2_2 c2_1).2).1) v2.1)].length) * 24 ≤ lim) ∧ (∃ m_, m_ < m ∧ (L20 tables guards) 2 m_ (⟨[(1, .data (Ty.sl TGuard) guards), (5, .own 16 none), (6, .data TInt c2_0), (7, .data TInt c2_1), (8, .own 28 none), (9, .data TInt (wrap64 (v2.1 + (1 : Int))))], [(16, .arr false TTable c2_2), (28, .arr false (Ty.sl TValue) (v2.2 ++ [(nth (t := (Ty.sl TValue)) (((nth (t := TTable) c2_2 c2_1).2).1) v2.1)]))]⟩ : St) K)) ((∃ m_, m_ < m ∧ (L20 tables guards) 2 m_ (⟨[(1, .data (Ty.sl TGuard) guards), (5, .own 16 none), (6, .data TInt c2_0), (7, .data TInt c2_1), (8, .own 28 none), (9, .data TInt (wrap64 (v2.1 + (1 : Int))))], [(16, .arr false TTable c2_2), (28, .arr false (Ty.sl TValue) v2.2)]⟩ : St) K))) (K (.exit 2) (⟨[(1, .data (Ty.sl TGuard) guards), (5, .own 16 none), (6, .data TInt c2_0), (7, .data TInt c2_1), (8, .own 28 none)], [(16, .arr false TTable c2_2), (28, .arr false (Ty.sl TValue) v2.2)]⟩ : St))) := by kernel_rfl
theorem con20_ok : ConOk P 20 c20 := by
  refine con_okR (fn := f20) (code := bodyOf f20) (tab_ok tab_check cmp_check) consOk20 mixed func20 rfl rfl fun args hp K h0 => ?_
  obtain ⟨a0, a1, rfl, rfl, h1⟩ := args2_elim h0
  obtain ⟨tables, rfl, h2⟩ := withD_elim h1
  obtain ⟨guards, rfl, h3⟩ := withD_elim h2
  obtain ⟨h_tables, h_guards, hK⟩ := h3
  have h : ok (F.spec_TablesSeen tables guards) (fun r => K (.own 0 none) [(0, .arr false TTable r)]) := ok_of_eq (F.spec_TablesSeen_eq tables guards h_tables h_guards) (hK _ rfl)
  refine ⟨⟨show (2 : Nat) ≤ 70 by decide, show (2 : Nat) ≤ 1000000 by decide⟩, ann20, (L20 tables guards), .raw, (loopsN2 (i0 := 0) (i1 := 2) (by kernel_rfl) ?_ ?_), ?_⟩
  · clear h
    intro m_ s_ K_ h
    obtain ⟨hc0, i0, v0, rfl, hl0, rfl, hv0, h⟩ := (show LP20_0 tables guards m_ s_ K_ from h)
    rw [lvc20_0 tables guards i0 v0 _ K_]
    exact (loopI_step h (fun ht0 h => ⟨hl0, ⟨ht0, (loopW_start (fun m hm => ⟨i0, ((nth (t := TGuard) guards i0).1), v0, trivial, hm⟩) ((0 : Int), []) rfl trivial (ok_bind h (fun e2 h hv2 => ⟨(ok_guard h).1, have h := (ok_guard h).2; ⟨(ok_guard h).1, have h := (ok_guard h).2; (loopI_next (fun m hm => (show LP20_0 tables guards m _ _ from ⟨hc0, hm⟩)) (v0.set ((nth (t := TGuard) guards i0).1).toNat ((nth (t := TTable) v0 ((nth (t := TGuard) guards i0).1)).1, (e2, ()))) rfl hl0 low0 ht0 (sm_len h_guards) trivial (have h := ok_ret h; h))⟩⟩)))⟩⟩) (fun h => (h trivial)))
  · clear h
    intro m_ s_ K_ h
    obtain ⟨c2_0, c2_1, c2_2, hc2, v2, rfl, hv2, h⟩ := (show LP20_2 tables guards m_ s_ K_ from h)
    rw [lvc20_1 tables guards c2_0 c2_1 c2_2 v2 _ K_]
    exact (loopW_step h (fun m1 hm2 h => ⟨(ok_guard h).1, have g_5 := (ok_guard h).1; have h := (ok_guard h).2; ⟨(ok_guard h).1, have g_6 := (ok_guard h).1; have h := (ok_guard h).2; (ok_cond h (fun b_7 h => ⟨g_5, ⟨g_6, ⟨(ok_guard h).1, have g_8 := (ok_guard h).1; have h := (ok_guard h).2; ⟨(ok_guard h).1, have g_9 := (ok_guard h).1; have h := (ok_guard h).2; ⟨(ok_guard h).1, have h := (ok_guard h).2; ⟨(ok_guard h).1, have h := (ok_guard h).2; ⟨(ok_guard h).1, have h := (ok_guard h).2; ⟨(sm_nth h_guards c2_0).2.1, ⟨(ok_guard h).1, have h := (ok_guard h).2; (ok_cond h (fun b_14 h => ⟨g_5, ⟨g_6, ⟨g_8, ⟨g_9, ⟨(ok_guard h).1, have h := (ok_guard h).2; (loopW_next (fun m hm => (show LP20_2 tables guards m _ _ from ⟨c2_0, c2_1, c2_2, hc2, hm⟩)) hm2 (wrap64 (v2.1 + (1 : Int)), (v2.2 ++ [(nth (t := (Ty.sl TValue)) (((nth (t := TTable) c2_2 c2_1).2).1) v2.1)])) rfl trivial (have h := ok_ret h; h))⟩⟩⟩⟩⟩) (fun b_14 h => (loopW_next (fun m hm => (show LP20_2 tables guards m _ _ from ⟨c2_0, c2_1, c2_2, hc2, hm⟩)) hm2 (wrap64 (v2.1 + (1 : Int)), v2.2) rfl trivial (have h := ok_ret h; h))))⟩⟩⟩⟩⟩⟩⟩⟩⟩) (fun b_7 h => ((have h := ok_ret h; h) trivial)))⟩⟩))
  · rw [vc20 tables guards K]
    exact ⟨h_tables, ⟨h_guards, (ok_cond h (fun b_1 h => (have h := ok_ret h; h)) (fun b_1 h => ⟨h_tables, (fun r_3_1 e_r_3_1 => have h := ok_let h r_3_1 e_r_3_1; (loopI_start (fun m hm => ⟨trivial, hm⟩) (0 : Int) r_3_1 rfl (Int.natCast_nonneg 0) trivial (ok_then h (fun v0 h hv0 => (have h := ok_ret h; h)) (fun _ h => h.elim))))⟩))⟩⟩

/-! 122: loop.example/tablehouse/laws.toPart -/
def c122 : Con := ⟨[.dat TPart], fun args hp K => args1 (fun a0 => withD TPart a0 fun x => (Sm TPart x) ∧ (∀ r : (TPart).D, r = (x) → K (.data TPart r) [])) args hp, .plain⟩
def cons122 : Cons := [(154, c154)]
def inl122 : List (Nat × Inl) := []
@[reducible] def C122 : Ctx := ⟨tab, fun t => memN t cmps, cons122, 15, inl122, 0, false⟩
theorem consOk122 : ConsOk P C122 := by
  refine consOk_cons (enter_ok (fn := f154) func154 (by kernel_rfl) rfl) con154_ok ?_
  exact consOk_nil
def ann122 : Nat → List Dir
  | 0 => [.fixRow 1 TPart, .keep [1, 2]]
  | 1 => [.keep [1, 2, 3]]
  | 2 => [.keep [1, 2, 3]]
  | 3 => [.keep [1, 2, 3]]
  | 4 => [.keep [2, 3]]
  | 5 => [.keep [2]]
  | _ => []
def L122 (x : (TPart).D) : Loops := fun id m st_ K => match id with
  | _ => False
theorem vc122 (x : (TPart).D) (K : AV → Hp → Prop) : awp C122 (L122 x) ann122 (bodyOf f122) ⟨argEnv 0 [.data TPart x], []⟩ (outK tab false f122.results.toList (hasBox []) (resK (.dat TPart) K)) =
  ((Sm TValue x.2.2.1) ∧ (∀ r_4_2 : (TValue).D, r_4_2 = (x.2.2.1) → K (.data TPart (x.1, (x.2.1, (r_4_2, ())))) [])) := by kernel_rfl
theorem con122_ok : ConOk P 122 c122 := by
  refine con_okR (fn := f122) (code := bodyOf f122) (tab_ok tab_check cmp_check) consOk122 mixed func122 rfl rfl fun args hp K h0 => ?_
  obtain ⟨a0, rfl, rfl, h1⟩ := args1_elim h0
  obtain ⟨x, rfl, h2⟩ := withD_elim h1
  obtain ⟨h_x, hK⟩ := h2
  have h : ok (F.laws_toPart x) (fun r => K (.data TPart r) []) := ok_of_eq (F.laws_toPart_eq x h_x) (hK _ rfl)
  refine ⟨⟨show (1 : Nat) ≤ 15 by decide, show (1 : Nat) ≤ 1000000 by decide⟩, ann122, (L122 x), (.dat TPart), (no_loops (by kernel_rfl)), ?_⟩
  · rw [vc122 x K]
    exact ⟨h_x.2.2.1, (fun r_4_2 e_r_4_2 => have h := ok_let h r_4_2 e_r_4_2; (have h := ok_ret h; h))⟩

/-! 85: loop.example/tablehouse/laws.toPartS -/
def c85 : Con := ⟨[.dat (Ty.sl TPart)], fun args hp K => args1 (fun a0 => withD (Ty.sl TPart) a0 fun x => (Sm (Ty.sl TPart) x) ∧ (∀ r : (List (TPart).D), r = (x) → K (.own 0 none) [(0, .arr false TPart r)])) args hp, .plain⟩
def cons85 : Cons := [(122, c122)]
def inl85 : List (Nat × Inl) := []
@[reducible] def C85 : Ctx := ⟨tab, fun t => memN t cmps, cons85, 23, inl85, 0, false⟩
theorem consOk85 : ConsOk P C85 := by
  refine consOk_cons (enter_ok (fn := f122) func122 (by kernel_rfl) rfl) con122_ok ?_
  exact consOk_nil
def ann85 : Nat → List Dir
  | 0 => [.keep [0]]
  | 1 => [.keep [0, 3]]
  | 2 => [.keep [0, 3, 4]]
  | 3 => [.keep [0, 3, 4, 11]]
  | 4 => [.keep [0, 3, 4]]
  | 5 => [.keep [0, 3, 4]]
  | 6 => [.keep [2]]
  | 100000 => [.keep [3]]
  | _ => []
@[reducible] def LP85_0 (x : (List (TPart).D)) (m : Nat) (st_ : St) (K : X → St → Prop) : Prop := (True) ∧ LoopI (fun (i0 : Int) (v0 : (List (TPart).D)) => (⟨[(0, .data (Ty.sl TPart) x), (3, .own 7 none), (4, .data TInt i0)], [(7, .arr false TPart v0)]⟩ : St)) (0 : Int) (x.length : Int) (F.laws_toPartS_l0 x) (fun v0 : (List (TPart).D) => True) (outD (fun v0 : (List (TPart).D) => True → K (.exit 0) (⟨[(3, .own 7 none)], [(7, .arr false TPart v0)]⟩ : St)) (fun _ => False)) m st_
def L85 (x : (List (TPart).D)) : Loops := fun id m st_ K => match id with
  | 0 => LP85_0 x m st_ K
  | _ => False
theorem vc85 (x : (List (TPart).D)) (K : AV → Hp → Prop) : awp C85 (L85 x) ann85 (bodyOf f85) ⟨argEnv 0 [.data (Ty.sl TPart) x], []⟩ (outK tab false f85.results.toList (hasBox []) (resK .raw K)) =
  (((x.length : Int) = (x.length : Int)) ∧ (0 ≤ (x.length : Int)) ∧ ((x.length : Int) * 48 ≤ (lim : Int)) ∧ (∃ m_, (True) ∧ LoopI (fun (i0 : Int) (v0 : (List (TPart).D)) => (⟨[(0, .data (Ty.sl TPart) x), (3, .own 7 none), (4, .data TInt i0)], [(7, .arr false TPart v0)]⟩ : St)) (0 : Int) (x.length : Int) (F.laws_toPartS_l0 x) (fun v0 : (List (TPart).D) => True) (outD (fun v0 : (List (TPart).D) => True → K (.own 0 none) [(0, .arr false TPart v0)]) (fun _ => False)) m_ (⟨[(0, .data (Ty.sl TPart) x), (3, .own 7 none), (4, .data TInt (0 : Int))], [(7, .arr false TPart (List.replicate (x.length : Int).toNat ((0 : Int), ((0 : Int), (((0 : Int), ((0 : Int), ((⟨#[]⟩ : ByteArray), ()))), ())))))]⟩ : St))) := by kernel_rfl
theorem lvc85_0 (x : (List (TPart).D))  (i0 : Int) (v0 : (List (TPart).D)) (m : Nat) (K : X → St → Prop) : awp C85 (L85 x) ann85 (loopAt (bodyOf f85) 0) (⟨[(0, .data (Ty.sl TPart) x), (3, .own 7 none), (4, .data TInt i0)], [(7, .arr false TPart v0)]⟩ : St) (thenW (fun s' => ∃ m', m' < m ∧ (L85 x) 0 m' s' K) (exitN 0 (ann85 (behind 0)) K)) =
  (cond (decide (i0 < (x.length : Int))) ((0 ≤ i0) ∧ (i0 < (x.length : Int)) ∧ (Sm TPart (nth (t := TPart) x i0)) ∧ (∀ r_5_6 : (TPart).D, r_5_6 = ((nth (t := TPart) x i0)) → (0 ≤ i0) ∧ (i0 < (v0.length : Int)) ∧ (∃ m_, m_ < m ∧ (L85 x) 0 m_ (⟨[(0, .data (Ty.sl TPart) x), (3, .own 7 none), (4, .data TInt (wrap64 (i0 + (1 : Int))))], [(7, .arr false TPart (v0.set i0.toNat r_5_6))]⟩ : St) K))) (K (.exit 0) (⟨[(3, .own 7 none)], [(7, .arr false TPart v0)]⟩ : St))) := by kernel_rfl
theorem con85_ok : ConOk P 85 c85 := by
  refine con_okR (fn := f85) (code := bodyOf f85) (tab_ok tab_check cmp_check) consOk85 mixed func85 rfl rfl fun args hp K h0 => ?_
  obtain ⟨a0, rfl, rfl, h1⟩ := args1_elim h0
  obtain ⟨x, rfl, h2⟩ := withD_elim h1
  obtain ⟨h_x, hK⟩ := h2
  have h : ok (F.laws_toPartS x) (fun r => K (.own 0 none) [(0, .arr false TPart r)]) := ok_of_eq (F.laws_toPartS_eq x h_x) (hK _ rfl)
  refine ⟨⟨show (1 : Nat) ≤ 23 by decide, show (1 : Nat) ≤ 1000000 by decide⟩, ann85, (L85 x), .raw, (loopsN1 (i0 := 0) (by kernel_rfl) ?_), ?_⟩
  · clear h
    intro m_ s_ K_ h
    obtain ⟨hc0, i0, v0, rfl, hl0, rfl, hv0, h⟩ := (show LP85_0 x m_ s_ K_ from h)
    rw [lvc85_0 x i0 v0 _ K_]
    exact (loopI_step h (fun ht0 h => ⟨hl0, ⟨ht0, ⟨(sm_nth h_x i0), (fun r_5_6 e_r_5_6 => have h := ok_let h r_5_6 e_r_5_6; ⟨hl0, ⟨(ok_guard h).1, have h := (ok_guard h).2; (loopI_next (fun m hm => (show LP85_0 x m _ _ from ⟨hc0, hm⟩)) (v0.set i0.toNat r_5_6) rfl hl0 low0 ht0 (sm_len h_x) trivial (have h := ok_ret h; h))⟩⟩)⟩⟩⟩) (fun h => (h trivial)))
  · rw [vc85 x K]
    exact ⟨rfl, ⟨(Int.natCast_nonneg _), ⟨(sm_limI h_x rfl), (loopI_start (fun m hm => ⟨trivial, hm⟩) (0 : Int) (List.replicate (x.length : Int).toNat ((0 : Int), ((0 : Int), (((0 : Int), ((0 : Int), ((⟨#[]⟩ : ByteArray), ()))), ())))) rfl (Int.natCast_nonneg 0) trivial (ok_then h (fun v0 h hv0 => (have h := ok_ret h; h)) (fun _ h => h.elim)))⟩⟩⟩

/-! 54: loop.example/tablehouse/laws.toGuard, in place -/
def cons54 : Cons := [(85, c85)]
@[reducible] def C54 : Ctx := ⟨tab, fun t => memN t cmps, cons54, 12, [], 200000, true⟩
theorem consOk54 : ConsOk P C54 := by
  refine consOk_cons (enter_ok (fn := f85) func85 (by kernel_rfl) rfl) con85_ok ?_
  exact consOk_nil
def T54 : Inl := inlT C54 (fun _ => []) (bodyOf f54) f54.results.toList
theorem inlOk54 : InlOk P 54 T54 := inl_ok (fn := f54) (code := bodyOf f54) (tab_ok tab_check cmp_check) consOk54 mixed func54 rfl rfl (by kernel_rfl)

/-! 21: loop.example/tablehouse/laws.toGuardS -/
def c21 : Con := ⟨[.dat (Ty.sl TGuard)], fun args hp K => args1 (fun a0 => withD (Ty.sl TGuard) a0 fun x => (Sm (Ty.sl TGuard) x) ∧ (∀ r : (List (TGuard).D), r = (x) → K (.own 0 none) [(0, .arr true TGuard r)])) args hp, .plain⟩
def cons21 : Cons := []
def inl21 : List (Nat × Inl) := [(54, T54)]
@[reducible] def C21 : Ctx := ⟨tab, fun t => memN t cmps, cons21, 23, inl21, 0, true⟩
theorem consOk21 : ConsOk P C21 := by
  refine consOk_inl (enter_ok (fn := f54) func54 (by kernel_rfl) rfl) inlOk54 ?_
  exact consOk_nil
def ann21 : Nat → List Dir
  | 0 => [.keep [0]]
  | 1 => [.keep [0, 3]]
  | 2 => [.keep [0, 3, 4]]
  | 3 => [.keep [0, 3, 4, 11]]
  | 4 => [.keep [0, 3, 4]]
  | 5 => [.keep [0, 3, 4]]
  | 6 => [.keep [2]]
  | 100000 => [.keep [3]]
  | _ => []
@[reducible] def LP21_0 (x : (List (TGuard).D)) (m : Nat) (st_ : St) (K : X → St → Prop) : Prop := (True) ∧ LoopI (fun (i0 : Int) (v0 : (List (TGuard).D)) => (⟨[(0, .data (Ty.sl TGuard) x), (3, .own 7 none), (4, .data TInt i0)], [(7, .arr true TGuard v0)]⟩ : St)) (0 : Int) (x.length : Int) (F.laws_toGuardS_l0 x) (fun v0 : (List (TGuard).D) => True) (outD (fun v0 : (List (TGuard).D) => True → K (.exit 0) (⟨[(3, .own 7 none)], [(7, .arr true TGuard v0)]⟩ : St)) (fun _ => False)) m st_
def L21 (x : (List (TGuard).D)) : Loops := fun id m st_ K => match id with
  | 0 => LP21_0 x m st_ K
  | _ => False
theorem vc21 (x : (List (TGuard).D)) (K : AV → Hp → Prop) : awp C21 (L21 x) ann21 (bodyOf f21) ⟨argEnv 0 [.data (Ty.sl TGuard) x], []⟩ (outK tab true f21.results.toList (hasBox []) (resK .raw K)) =
  (((x.length : Int) = (x.length : Int)) ∧ (0 ≤ (x.length : Int)) ∧ ((x.length : Int) * 32 ≤ (lim : Int)) ∧ (∃ m_, (True) ∧ LoopI (fun (i0 : Int) (v0 : (List (TGuard).D)) => (⟨[(0, .data (Ty.sl TGuard) x), (3, .own 7 none), (4, .data TInt i0)], [(7, .arr true TGuard v0)]⟩ : St)) (0 : Int) (x.length : Int) (F.laws_toGuardS_l0 x) (fun v0 : (List (TGuard).D) => True) (outD (fun v0 : (List (TGuard).D) => True → K (.own 0 none) [(0, .arr true TGuard v0)]) (fun _ => False)) m_ (⟨[(0, .data (Ty.sl TGuard) x), (3, .own 7 none), (4, .data TInt (0 : Int))], [(7, .arr true TGuard (List.replicate (x.length : Int).toNat ((0 : Int), ([], ()))))]⟩ : St))) := by kernel_rfl
theorem lvc21_0 (x : (List (TGuard).D))  (i0 : Int) (v0 : (List (TGuard).D)) (m : Nat) (K : X → St → Prop) : awp C21 (L21 x) ann21 (loopAt (bodyOf f21) 0) (⟨[(0, .data (Ty.sl TGuard) x), (3, .own 7 none), (4, .data TInt i0)], [(7, .arr true TGuard v0)]⟩ : St) (thenW (fun s' => ∃ m', m' < m ∧ (L21 x) 0 m' s' K) (exitN 0 (ann21 (behind 0)) K)) =
  (cond (decide (i0 < (x.length : Int))) ((0 ≤ i0) ∧ (i0 < (x.length : Int)) ∧ (Sm (Ty.sl TPart) (((nth (t := TGuard) x i0).2).1)) ∧ (∀ r_1003_2 : (List (TPart).D), r_1003_2 = ((((nth (t := TGuard) x i0).2).1)) → (0 ≤ i0) ∧ (i0 < (v0.length : Int)) ∧ (∃ m_, m_ < m ∧ (L21 x) 0 m_ (⟨[(0, .data (Ty.sl TGuard) x), (3, .own 7 none), (4, .data TInt (wrap64 (i0 + (1 : Int))))], [(7, .arr true TGuard (v0.set i0.toNat ((nth (t := TGuard) x i0).1, (r_1003_2, ()))))]⟩ : St) K))) (K (.exit 0) (⟨[(3, .own 7 none)], [(7, .arr true TGuard v0)]⟩ : St))) := by kernel_rfl
theorem con21_ok : ConOk P 21 c21 := by
  refine con_okR (fn := f21) (code := bodyOf f21) (tab_ok tab_check cmp_check) consOk21 mixed func21 rfl rfl fun args hp K h0 => ?_
  obtain ⟨a0, rfl, rfl, h1⟩ := args1_elim h0
  obtain ⟨x, rfl, h2⟩ := withD_elim h1
  obtain ⟨h_x, hK⟩ := h2
  have h : ok (F.laws_toGuardS x) (fun r => K (.own 0 none) [(0, .arr true TGuard r)]) := ok_of_eq (F.laws_toGuardS_eq x h_x) (hK _ rfl)
  refine ⟨⟨show (1 : Nat) ≤ 23 by decide, show (1 : Nat) ≤ 1000000 by decide⟩, ann21, (L21 x), .raw, (loopsN1 (i0 := 0) (by kernel_rfl) ?_), ?_⟩
  · clear h
    intro m_ s_ K_ h
    obtain ⟨hc0, i0, v0, rfl, hl0, rfl, hv0, h⟩ := (show LP21_0 x m_ s_ K_ from h)
    rw [lvc21_0 x i0 v0 _ K_]
    exact (loopI_step h (fun ht0 h => ⟨hl0, ⟨ht0, ⟨(sm_nth h_x i0).2.1, (fun r_1003_2 e_r_1003_2 => have h := ok_let h r_1003_2 e_r_1003_2; ⟨hl0, ⟨(ok_guard h).1, have h := (ok_guard h).2; (loopI_next (fun m hm => (show LP21_0 x m _ _ from ⟨hc0, hm⟩)) (v0.set i0.toNat ((nth (t := TGuard) x i0).1, (r_1003_2, ()))) rfl hl0 low0 ht0 (sm_len h_x) trivial (have h := ok_ret h; h))⟩⟩)⟩⟩⟩) (fun h => (h trivial)))
  · rw [vc21 x K]
    exact ⟨rfl, ⟨(Int.natCast_nonneg _), ⟨(sm_limI h_x rfl), (loopI_start (fun m hm => ⟨trivial, hm⟩) (0 : Int) (List.replicate (x.length : Int).toNat ((0 : Int), ([], ()))) rfl (Int.natCast_nonneg 0) trivial (ok_then h (fun v0 h hv0 => (have h := ok_ret h; h)) (fun _ h => h.elim)))⟩⟩⟩

/-! 66: loop.example/tablehouse/impl.between -/
def c66 : Con := ⟨[.dat TInt, .dat TInt, .dat TInt], fun args hp K => args3 (fun a0 a1 a2 => withD TInt a0 fun n => withD TInt a1 fun low => withD TInt a2 fun high => K (.data Ty.bool (M.inR n low high)) []) args hp, .plain⟩
def cons66 : Cons := []
def inl66 : List (Nat × Inl) := []
@[reducible] def C66 : Ctx := ⟨tab, fun t => memN t cmps, cons66, 15, inl66, 0, false⟩
theorem consOk66 : ConsOk P C66 := by
  exact consOk_nil
def ann66 : Nat → List Dir
  | 0 => [.keep [0, 1, 2]]
  | 1 => [.keep [6]]
  | _ => []
def L66 (n : Int) (low : Int) (high : Int) : Loops := fun id m st_ K => match id with
  | _ => False
theorem vc66 (n : Int) (low : Int) (high : Int) (K : AV → Hp → Prop) : awp C66 (L66 n low high) ann66 (bodyOf f66) ⟨argEnv 0 [.data TInt n, .data TInt low, .data TInt high], []⟩ (outK tab false f66.results.toList (hasBox []) (resK (.dat Ty.bool) K)) =
  (cond ((decide (low ≤ n)) == true) (K (.data Ty.bool (decide (n ≤ high))) []) (K (.data Ty.bool false) [])) := by kernel_rfl
theorem con66_ok : ConOk P 66 c66 := by
  refine con_okR (fn := f66) (code := bodyOf f66) (tab_ok tab_check cmp_check) consOk66 mixed func66 rfl rfl fun args hp K h0 => ?_
  obtain ⟨a0, a1, a2, rfl, rfl, h1⟩ := args3_elim h0
  obtain ⟨n, rfl, h2⟩ := withD_elim h1
  obtain ⟨low, rfl, h3⟩ := withD_elim h2
  obtain ⟨high, rfl, h4⟩ := withD_elim h3
  have hK := h4
  have h : ok (F.impl_between n low high) (fun r => K (.data Ty.bool r) []) := ok_of_eq (F.impl_between_eq n low high) hK
  refine ⟨⟨show (3 : Nat) ≤ 15 by decide, show (3 : Nat) ≤ 1000000 by decide⟩, ann66, (L66 n low high), (.dat Ty.bool), (no_loops (by kernel_rfl)), ?_⟩
  · rw [vc66 n low high K]
    exact (ok_cond h (fun b_1 h => (have h := ok_ret h; h)) (fun b_1 h => (have h := ok_ret h; h)))

/-! 167: loop.example/tablehouse/impl.ColumnsOk$1 -/
def c167 : Con := ⟨[.dat TColumn], fun args hp K => args1 (fun a0 => withD TColumn a0 fun c => K (.data Ty.bool (!M.columnOk c)) []) args hp, .plain⟩
def cons167 : Cons := [(66, c66)]
def inl167 : List (Nat × Inl) := []
@[reducible] def C167 : Ctx := ⟨tab, fun t => memN t cmps, cons167, 7, inl167, 0, false⟩
theorem consOk167 : ConsOk P C167 := by
  refine consOk_cons (enter_ok (fn := f66) func66 (by kernel_rfl) rfl) con66_ok ?_
  exact consOk_nil
def ann167 : Nat → List Dir
  | 0 => [.fixRow 1 TColumn, .keep [1]]
  | 1 => [.keep [2]]
  | _ => []
def L167 (c : (TColumn).D) : Loops := fun id m st_ K => match id with
  | _ => False
theorem vc167 (c : (TColumn).D) (K : AV → Hp → Prop) : awp C167 (L167 c) ann167 (bodyOf f167) ⟨argEnv 0 [.data TColumn c], []⟩ (outK tab false f167.results.toList (hasBox []) (resK (.dat Ty.bool) K)) =
  (K (.data Ty.bool (!(M.inR c.1 (1 : Int) (3 : Int)))) []) := by kernel_rfl
theorem con167_ok : ConOk P 167 c167 := by
  refine con_okR (fn := f167) (code := bodyOf f167) (tab_ok tab_check cmp_check) consOk167 mixed func167 rfl rfl fun args hp K h0 => ?_
  obtain ⟨a0, rfl, rfl, h1⟩ := args1_elim h0
  obtain ⟨c, rfl, h2⟩ := withD_elim h1
  have hK := h2
  have h : ok (F.impl_ColumnsOk_1 c) (fun r => K (.data Ty.bool r) []) := ok_of_eq (F.impl_ColumnsOk_1_eq c) hK
  refine ⟨⟨show (1 : Nat) ≤ 7 by decide, show (1 : Nat) ≤ 1000000 by decide⟩, ann167, (L167 c), (.dat Ty.bool), (no_loops (by kernel_rfl)), ?_⟩
  · rw [vc167 c K]
    exact (have h := ok_ret h; h)

end Go.AE
