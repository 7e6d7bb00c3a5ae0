/- Contracts. -/
import Derived.Test.YtnhbbkkbpenlbaaGreatAeSeat
import Derived.Test.YtnhbbkkbpenlbaaGreatAeEq
import Derived.Test.YtnhbbkkbpenlbaaGreatAeInl
namespace Go.AE
open Go Go.RowKit Go.Proofs.Tryz
set_option maxRecDepth 100000
set_option linter.unusedVariables false
def c78 : Con := ⟨[.dat (Ty.sl TColumn), .dat TInt], fun args hp K => args2 (fun a0 a1 => withD (Ty.sl TColumn) a0 fun x => withD TInt a1 fun left => (Ln (Ty.sl TColumn) x) ∧ (0 ≤ left) ∧ (left ≤ 1048576) ∧ K (.data TInt (M.szLen x.length left)) []) args hp, .plain⟩
def cons78 : Cons := []
@[reducible] def C78 : Ctx := ⟨tab, fun t => memN t cmps, cons78, 12, [], 0, false⟩
theorem consOk78 : ConsOk P C78 := by
 exact consOk_nil
def ann78 : Nat → List Dir
 | 0 => [.keep [0, 1]]
 | 1 => [.keep [1]]
 | 2 => [.keep [1, 10]]
 | 3 => [.keep [4]]
 | 4 => [.keep [4]]
 | _ => []
def L78 (x : (List (TColumn).D)) (left : Int) : Loops := fun id m st_ K => match id with
 | _ => False
theorem vc78 (x : (List (TColumn).D)) (left : Int) (K : AV → Hp → Prop) : awp C78 (L78 x left) ann78 (bodyOf f78) ⟨argEnv 0 [.data (Ty.sl TColumn) x, .data TInt left], []⟩ (outK tab false f78.results.toList (hasBox []) (resK (.dat TInt) K)) =
 (cond (decide (wrap64 (left - (x.length : Int)) < (0 : Int))) (K (.data TInt (-1 : Int)) []) (K (.data TInt (wrap64 (left - (x.length : Int)))) [])) := by kernel_rfl
theorem con78_ok : ConOk P 78 c78 := by
 refine con_okR (fn := f78) (code := bodyOf f78) (tab_ok tab_check cmp_check) consOk78 mixed func78 rfl rfl fun args hp K h0 => ?_
 obtain ⟨a0, a1, rfl, rfl, h1⟩ := args2_elim h0
 obtain ⟨x, rfl, h2⟩ := withD_elim h1
 obtain ⟨left, rfl, h3⟩ := withD_elim h2
 obtain ⟨h_x, p0, p1, hK⟩ := h3
 have h : ok (F.laws_szColumnS x left) (fun r => K (.data TInt r) []) := ok_of_eq (F.laws_szColumnS_eq x left h_x p0 p1) hK
 refine ⟨⟨show (2 : Nat) ≤ 12 by decide, show (2 : Nat) ≤ 1000000 by decide⟩, ann78, (L78 x left), (.dat TInt), (no_loops (by kernel_rfl)), ?_⟩
 ·rw [vc78 x left K]
  exact (ok_cond h (fun b_1 h => (ok_ret h :)) (fun b_1 h => (ok_ret h :)))
def c152 : Con := ⟨[.dat TValue, .dat TInt], fun args hp K => args2 (fun a0 a1 => withD TValue a0 fun x => withD TInt a1 fun left => (Ln TValue x) ∧ (0 ≤ left) ∧ (left ≤ 1048576) ∧ K (.data TInt (M.szValue x left)) []) args hp, .plain⟩
def cons152 : Cons := []
@[reducible] def C152 : Ctx := ⟨tab, fun t => memN t cmps, cons152, 13, [], 0, false⟩
theorem consOk152 : ConsOk P C152 := by
 exact consOk_nil
def ann152 : Nat → List Dir
 | 0 => [.fixRow 2 TValue, .keep [1, 2]]
 | 1 => [.keep [1]]
 | 2 => [.keep [1, 11]]
 | 3 => [.keep [4]]
 | 4 => [.keep [4]]
 | _ => []
def L152 (x : (TValue).D) (left : Int) : Loops := fun id m st_ K => match id with
 | _ => False
theorem vc152 (x : (TValue).D) (left : Int) (K : AV → Hp → Prop) : awp C152 (L152 x left) ann152 (bodyOf f152) ⟨argEnv 0 [.data TValue x, .data TInt left], []⟩ (outK tab false f152.results.toList (hasBox []) (resK (.dat TInt) K)) =
 (cond (decide (wrap64 (left - (x.2.2.1.size : Int)) < (0 : Int))) (K (.data TInt (-1 : Int)) []) (K (.data TInt (wrap64 (left - (x.2.2.1.size : Int)))) [])) := by kernel_rfl
theorem con152_ok : ConOk P 152 c152 := by
 refine con_okR (fn := f152) (code := bodyOf f152) (tab_ok tab_check cmp_check) consOk152 mixed func152 rfl rfl fun args hp K h0 => ?_
 obtain ⟨a0, a1, rfl, rfl, h1⟩ := args2_elim h0
 obtain ⟨x, rfl, h2⟩ := withD_elim h1
 obtain ⟨left, rfl, h3⟩ := withD_elim h2
 obtain ⟨h_x, p0, p1, hK⟩ := h3
 have h : ok (F.laws_szValue x left) (fun r => K (.data TInt r) []) := ok_of_eq (F.laws_szValue_eq x left h_x p0 p1) hK
 refine ⟨⟨show (2 : Nat) ≤ 13 by decide, show (2 : Nat) ≤ 1000000 by decide⟩, ann152, (L152 x left), (.dat TInt), (no_loops (by kernel_rfl)), ?_⟩
 ·rw [vc152 x left K]
  exact (ok_cond h (fun b_1 h => (ok_ret h :)) (fun b_1 h => (ok_ret h :)))
def c117 : Con := ⟨[.dat (Ty.sl TValue), .dat TInt], fun args hp K => args2 (fun a0 a1 => withD (Ty.sl TValue) a0 fun x => withD TInt a1 fun left => (Ln (Ty.sl TValue) x) ∧ (0 ≤ left) ∧ (left ≤ 1048576) ∧ K (.data TInt (M.szS M.szValue x left)) []) args hp, .plain⟩
def cons117 : Cons := [(152, c152)]
@[reducible] def C117 : Ctx := ⟨tab, fun t => memN t cmps, cons117, 27, [], 0, false⟩
theorem consOk117 : ConsOk P C117 := by
 refine consOk_cons (enter_ok (fn := f152) func152 (by kernel_rfl) rfl) con152_ok ?_
 exact consOk_nil
def ann117 : Nat → List Dir
 | 0 => [.keep [0, 1]]
 | 1 => [.keep [0, 1]]
 | 2 => [.keep [0, 1, 11]]
 | 3 => [.keep [4]]
 | 4 => [.keep [0, 1, 5]]
 | 5 => [.keep [0, 1, 5, 15]]
 | 6 => [.keep [0, 1, 5]]
 | 7 => [.keep [0, 1, 5]]
 | 8 => [.keep [0, 1, 5, 25]]
 | 9 => [.keep [4]]
 | 10 => [.keep [4]]
 | 100000 => [.keep [1]]
 | _ => []
@[reducible] def LP117_0 (x : (List (TValue).D)) (left : Int) (m : Nat) (st_ : St) (K : X → St → Prop) : Prop := (True) ∧ LoopE (t := TValue) (fun (i0 : Int) (v0 : Int) => (⟨[(0, .data (Ty.sl TValue) x), (1, .data TInt v0), (5, .data TInt i0)], []⟩ : St)) x (F.laws_szValueS_l0 x left) (fun v0 : Int => True) (outD (fun v0 : Int => True → K (.exit 0) (⟨[(1, .data TInt v0)], []⟩ : St)) (fun q0 : Unit => K .ret (⟨[(4, .data TInt (-1 : Int))], []⟩ : St))) m st_
def L117 (x : (List (TValue).D)) (left : Int) : Loops := fun id m st_ K => match id with
 | 0 => LP117_0 x left m st_ K
 | _ => False
theorem vc117 (x : (List (TValue).D)) (left : Int) (K : AV → Hp → Prop) : awp C117 (L117 x left) ann117 (bodyOf f117) ⟨argEnv 0 [.data (Ty.sl TValue) x, .data TInt left], []⟩ (outK tab false f117.results.toList (hasBox []) (resK (.dat TInt) K)) =
 (cond (decide (wrap64 (left - (x.length : Int)) < (0 : Int))) (K (.data TInt (-1 : Int)) []) ((∃ m_, (True) ∧ LoopE (t := TValue) (fun (i0 : Int) (v0 : Int) => (⟨[(0, .data (Ty.sl TValue) x), (1, .data TInt v0), (5, .data TInt i0)], []⟩ : St)) x (F.laws_szValueS_l0 x left) (fun v0 : Int => True) (outD (fun v0 : Int => True → K (.data TInt v0) []) (fun q0 : Unit => K (.data TInt (-1 : Int)) [])) m_ (⟨[(0, .data (Ty.sl TValue) x), (1, .data TInt (wrap64 (left - (x.length : Int)))), (5, .data TInt (0 : Int))], []⟩ : St)))) := by kernel_rfl
theorem lvc117_0 (x : (List (TValue).D)) (left : Int)  (i0 : Int) (v0 : Int) (m : Nat) (K : X → St → Prop) : awp C117 (L117 x left) ann117 (loopAt (bodyOf f117) 0) (⟨[(0, .data (Ty.sl TValue) x), (1, .data TInt v0), (5, .data TInt i0)], []⟩ : St) (thenW (fun s' => ∃ m', m' < m ∧ (L117 x left) 0 m' s' K) (exitN 0 (ann117 (behind 0)) K)) =
 (cond (decide (i0 < (x.length : Int))) ((0 ≤ i0) ∧ (i0 < (x.length : Int)) ∧ (Ln TValue (nth (t := TValue) x i0)) ∧ (0 ≤ v0) ∧ (v0 ≤ 1048576) ∧ cond (decide ((M.szValue (nth (t := TValue) x i0) v0) < (0 : Int))) (K .ret (⟨[(4, .data TInt (-1 : Int))], []⟩ : St)) ((∃ m_, m_ < m ∧ (L117 x left) 0 m_ (⟨[(0, .data (Ty.sl TValue) x), (1, .data TInt (M.szValue (nth (t := TValue) x i0) v0)), (5, .data TInt (wrap64 (i0 + (1 : Int))))], []⟩ : St) K))) (K (.exit 0) (⟨[(1, .data TInt v0)], []⟩ : St))) := by kernel_rfl
theorem con117_ok : ConOk P 117 c117 := by
 refine con_okR (fn := f117) (code := bodyOf f117) (tab_ok tab_check cmp_check) consOk117 mixed func117 rfl rfl fun args hp K h0 => ?_
 obtain ⟨a0, a1, rfl, rfl, h1⟩ := args2_elim h0
 obtain ⟨x, rfl, h2⟩ := withD_elim h1
 obtain ⟨left, rfl, h3⟩ := withD_elim h2
 obtain ⟨h_x, p0, p1, hK⟩ := h3
 have h : ok (F.laws_szValueS x left) (fun r => K (.data TInt r) []) := ok_of_eq (F.laws_szValueS_eq x left h_x p0 p1) hK
 refine ⟨⟨show (2 : Nat) ≤ 27 by decide, show (2 : Nat) ≤ 1000000 by decide⟩, ann117, (L117 x left), (.dat TInt), (loopsN1 (i0 := 0) (by kernel_rfl) ?_), ?_⟩
 ·clear h
  intro m_ s_ K_ h
  obtain ⟨hc0, i0, v0, rfl, hl0, rfl, hv0, h⟩ := (show LP117_0 x left m_ s_ K_ from h)
  rw [lvc117_0 x left i0 v0 _ K_]
  exact (loopE_step (t := TValue) hl0 h (fun ht0 h => ⟨hl0, ⟨ht0, ⟨(sm_nth h_x i0), ⟨(ok_guard h).1, have h := (ok_guard h).2; ⟨(ok_guard h).1, have h := (ok_guard h).2; (ok_cond h (fun b_16 h => (ok_ret h :)) (fun b_16 h => (loopE_next (t := TValue) (fun m hm => (show LP117_0 x left m _ _ from ⟨hc0, hm⟩)) (M.szValue (nth (t := TValue) x i0) v0) rfl hl0 ht0 (sm_len h_x) trivial (ok_ret h :))))⟩⟩⟩⟩⟩) (fun h => (h trivial)))
 ·rw [vc117 x left K]
  exact (ok_cond h (fun b_1 h => (ok_ret h :)) (fun b_1 h => (loopE_start (t := TValue) (fun m hm => ⟨trivial, hm⟩) (wrap64 (left - (x.length : Int))) rfl trivial (ok_then h (fun v0 h hv0 => (ok_ret h :)) (fun q0 h => (ok_ret h :))))))
def c79 : Con := ⟨[.dat (Ty.sl (Ty.sl TValue)), .dat TInt], fun args hp K => args2 (fun a0 a1 => withD (Ty.sl (Ty.sl TValue)) a0 fun x => withD TInt a1 fun left => (Ln (Ty.sl (Ty.sl TValue)) x) ∧ (0 ≤ left) ∧ (left ≤ 1048576) ∧ K (.data TInt (M.szS (M.szS M.szValue) x left)) []) args hp, .plain⟩
def cons79 : Cons := [(117, c117)]
@[reducible] def C79 : Ctx := ⟨tab, fun t => memN t cmps, cons79, 27, [], 0, false⟩
theorem consOk79 : ConsOk P C79 := by
 refine consOk_cons (enter_ok (fn := f117) func117 (by kernel_rfl) rfl) con117_ok ?_
 exact consOk_nil
def ann79 : Nat → List Dir
 | 0 => [.keep [0, 1]]
 | 1 => [.keep [0, 1]]
 | 2 => [.keep [0, 1, 11]]
 | 3 => [.keep [4]]
 | 4 => [.keep [0, 1, 5]]
 | 5 => [.keep [0, 1, 5, 15]]
 | 6 => [.keep [0, 1, 5]]
 | 7 => [.keep [0, 1, 5]]
 | 8 => [.keep [0, 1, 5, 25]]
 | 9 => [.keep [4]]
 | 10 => [.keep [4]]
 | 100000 => [.keep [1]]
 | _ => []
@[reducible] def LP79_0 (x : (List (List (TValue).D))) (left : Int) (m : Nat) (st_ : St) (K : X → St → Prop) : Prop := (True) ∧ LoopE (t := (Ty.sl TValue)) (fun (i0 : Int) (v0 : Int) => (⟨[(0, .data (Ty.sl (Ty.sl TValue)) x), (1, .data TInt v0), (5, .data TInt i0)], []⟩ : St)) x (F.laws_szValueSS_l0 x left) (fun v0 : Int => True) (outD (fun v0 : Int => True → K (.exit 0) (⟨[(1, .data TInt v0)], []⟩ : St)) (fun q0 : Unit => K .ret (⟨[(4, .data TInt (-1 : Int))], []⟩ : St))) m st_
def L79 (x : (List (List (TValue).D))) (left : Int) : Loops := fun id m st_ K => match id with
 | 0 => LP79_0 x left m st_ K
 | _ => False
theorem vc79 (x : (List (List (TValue).D))) (left : Int) (K : AV → Hp → Prop) : awp C79 (L79 x left) ann79 (bodyOf f79) ⟨argEnv 0 [.data (Ty.sl (Ty.sl TValue)) x, .data TInt left], []⟩ (outK tab false f79.results.toList (hasBox []) (resK (.dat TInt) K)) =
 (cond (decide (wrap64 (left - (x.length : Int)) < (0 : Int))) (K (.data TInt (-1 : Int)) []) ((∃ m_, (True) ∧ LoopE (t := (Ty.sl TValue)) (fun (i0 : Int) (v0 : Int) => (⟨[(0, .data (Ty.sl (Ty.sl TValue)) x), (1, .data TInt v0), (5, .data TInt i0)], []⟩ : St)) x (F.laws_szValueSS_l0 x left) (fun v0 : Int => True) (outD (fun v0 : Int => True → K (.data TInt v0) []) (fun q0 : Unit => K (.data TInt (-1 : Int)) [])) m_ (⟨[(0, .data (Ty.sl (Ty.sl TValue)) x), (1, .data TInt (wrap64 (left - (x.length : Int)))), (5, .data TInt (0 : Int))], []⟩ : St)))) := by kernel_rfl
theorem lvc79_0 (x : (List (List (TValue).D))) (left : Int)  (i0 : Int) (v0 : Int) (m : Nat) (K : X → St → Prop) : awp C79 (L79 x left) ann79 (loopAt (bodyOf f79) 0) (⟨[(0, .data (Ty.sl (Ty.sl TValue)) x), (1, .data TInt v0), (5, .data TInt i0)], []⟩ : St) (thenW (fun s' => ∃ m', m' < m ∧ (L79 x left) 0 m' s' K) (exitN 0 (ann79 (behind 0)) K)) =
 (cond (decide (i0 < (x.length : Int))) ((0 ≤ i0) ∧ (i0 < (x.length : Int)) ∧ (Ln (Ty.sl TValue) (nth (t := (Ty.sl TValue)) x i0)) ∧ (0 ≤ v0) ∧ (v0 ≤ 1048576) ∧ cond (decide ((M.szS M.szValue (nth (t := (Ty.sl TValue)) x i0) v0) < (0 : Int))) (K .ret (⟨[(4, .data TInt (-1 : Int))], []⟩ : St)) ((∃ m_, m_ < m ∧ (L79 x left) 0 m_ (⟨[(0, .data (Ty.sl (Ty.sl TValue)) x), (1, .data TInt (M.szS M.szValue (nth (t := (Ty.sl TValue)) x i0) v0)), (5, .data TInt (wrap64 (i0 + (1 : Int))))], []⟩ : St) K))) (K (.exit 0) (⟨[(1, .data TInt v0)], []⟩ : St))) := by kernel_rfl
theorem con79_ok : ConOk P 79 c79 := by
 refine con_okR (fn := f79) (code := bodyOf f79) (tab_ok tab_check cmp_check) consOk79 mixed func79 rfl rfl fun args hp K h0 => ?_
 obtain ⟨a0, a1, rfl, rfl, h1⟩ := args2_elim h0
 obtain ⟨x, rfl, h2⟩ := withD_elim h1
 obtain ⟨left, rfl, h3⟩ := withD_elim h2
 obtain ⟨h_x, p0, p1, hK⟩ := h3
 have h : ok (F.laws_szValueSS x left) (fun r => K (.data TInt r) []) := ok_of_eq (F.laws_szValueSS_eq x left h_x p0 p1) hK
 refine ⟨⟨show (2 : Nat) ≤ 27 by decide, show (2 : Nat) ≤ 1000000 by decide⟩, ann79, (L79 x left), (.dat TInt), (loopsN1 (i0 := 0) (by kernel_rfl) ?_), ?_⟩
 ·clear h
  intro m_ s_ K_ h
  obtain ⟨hc0, i0, v0, rfl, hl0, rfl, hv0, h⟩ := (show LP79_0 x left m_ s_ K_ from h)
  rw [lvc79_0 x left i0 v0 _ K_]
  exact (loopE_step (t := (Ty.sl TValue)) hl0 h (fun ht0 h => ⟨hl0, ⟨ht0, ⟨(sm_nth h_x i0), ⟨(ok_guard h).1, have h := (ok_guard h).2; ⟨(ok_guard h).1, have h := (ok_guard h).2; (ok_cond h (fun b_16 h => (ok_ret h :)) (fun b_16 h => (loopE_next (t := (Ty.sl TValue)) (fun m hm => (show LP79_0 x left m _ _ from ⟨hc0, hm⟩)) (M.szS M.szValue (nth (t := (Ty.sl TValue)) x i0) v0) rfl hl0 ht0 (sm_len h_x) trivial (ok_ret h :))))⟩⟩⟩⟩⟩) (fun h => (h trivial)))
 ·rw [vc79 x left K]
  exact (ok_cond h (fun b_1 h => (ok_ret h :)) (fun b_1 h => (loopE_start (t := (Ty.sl TValue)) (fun m hm => ⟨trivial, hm⟩) (wrap64 (left - (x.length : Int))) rfl trivial (ok_then h (fun v0 h hv0 => (ok_ret h :)) (fun q0 h => (ok_ret h :))))))
def c35 : Con := ⟨[.dat TTable, .dat TInt], fun args hp K => args2 (fun a0 a1 => withD TTable a0 fun x => withD TInt a1 fun left => (Ln TTable x) ∧ (0 ≤ left) ∧ (left ≤ 1048576) ∧ K (.data TInt (M.szTable x left)) []) args hp, .plain⟩
def cons35 : Cons := [(78, c78), (79, c79)]
@[reducible] def C35 : Ctx := ⟨tab, fun t => memN t cmps, cons35, 18, [], 0, false⟩
theorem consOk35 : ConsOk P C35 := by
 refine consOk_cons (enter_ok (fn := f78) func78 (by kernel_rfl) rfl) con78_ok ?_
 refine consOk_cons (enter_ok (fn := f79) func79 (by kernel_rfl) rfl) con79_ok ?_
 exact consOk_nil
def ann35 : Nat → List Dir
 | 0 => [.fixRow 2 TTable, .keep [1, 2]]
 | 1 => [.keep [1, 2]]
 | 2 => [.keep [1, 2, 10]]
 | 3 => [.keep [4]]
 | 4 => [.keep [1]]
 | 5 => [.keep [1, 16]]
 | 6 => [.keep [4]]
 | 7 => [.keep [4]]
 | _ => []
def L35 (x : (TTable).D) (left : Int) : Loops := fun id m st_ K => match id with
 | _ => False
theorem vc35 (x : (TTable).D) (left : Int) (K : AV → Hp → Prop) : awp C35 (L35 x left) ann35 (bodyOf f35) ⟨argEnv 0 [.data TTable x, .data TInt left], []⟩ (outK tab false f35.results.toList (hasBox []) (resK (.dat TInt) K)) =
 ((Ln (Ty.sl TColumn) x.1) ∧ (0 ≤ left) ∧ (left ≤ 1048576) ∧ cond (decide ((M.szLen x.1.length left) < (0 : Int))) (K (.data TInt (-1 : Int)) []) ((Ln (Ty.sl (Ty.sl TValue)) x.2.1) ∧ (0 ≤ (M.szLen x.1.length left)) ∧ ((M.szLen x.1.length left) ≤ 1048576) ∧ cond (decide ((M.szS (M.szS M.szValue) x.2.1 (M.szLen x.1.length left)) < (0 : Int))) (K (.data TInt (-1 : Int)) []) (K (.data TInt (M.szS (M.szS M.szValue) x.2.1 (M.szLen x.1.length left))) []))) := by kernel_rfl
theorem con35_ok : ConOk P 35 c35 := by
 refine con_okR (fn := f35) (code := bodyOf f35) (tab_ok tab_check cmp_check) consOk35 mixed func35 rfl rfl fun args hp K h0 => ?_
 obtain ⟨a0, a1, rfl, rfl, h1⟩ := args2_elim h0
 obtain ⟨x, rfl, h2⟩ := withD_elim h1
 obtain ⟨left, rfl, h3⟩ := withD_elim h2
 obtain ⟨h_x, p0, p1, hK⟩ := h3
 have h : ok (F.laws_szTable x left) (fun r => K (.data TInt r) []) := ok_of_eq (F.laws_szTable_eq x left h_x p0 p1) hK
 refine ⟨⟨show (2 : Nat) ≤ 18 by decide, show (2 : Nat) ≤ 1000000 by decide⟩, ann35, (L35 x left), (.dat TInt), (no_loops (by kernel_rfl)), ?_⟩
 ·rw [vc35 x left K]
  exact ⟨h_x.1, ⟨p0, ⟨p1, (ok_cond h (fun b_1 h => (ok_ret h :)) (fun b_1 h => ⟨h_x.2.1, ⟨(ok_guard h).1, have h := (ok_guard h).2; ⟨(ok_guard h).1, have h := (ok_guard h).2; (ok_cond h (fun b_4 h => (ok_ret h :)) (fun b_4 h => (ok_ret h :)))⟩⟩⟩))⟩⟩⟩
def c8 : Con := ⟨[.dat (Ty.sl TTable), .dat TInt], fun args hp K => args2 (fun a0 a1 => withD (Ty.sl TTable) a0 fun x => withD TInt a1 fun left => (Ln (Ty.sl TTable) x) ∧ (0 ≤ left) ∧ (left ≤ 1048576) ∧ K (.data TInt (M.szS M.szTable x left)) []) args hp, .plain⟩
def cons8 : Cons := [(35, c35)]
@[reducible] def C8 : Ctx := ⟨tab, fun t => memN t cmps, cons8, 27, [], 0, false⟩
theorem consOk8 : ConsOk P C8 := by
 refine consOk_cons (enter_ok (fn := f35) func35 (by kernel_rfl) rfl) con35_ok ?_
 exact consOk_nil
def ann8 : Nat → List Dir
 | 0 => [.keep [0, 1]]
 | 1 => [.keep [0, 1]]
 | 2 => [.keep [0, 1, 11]]
 | 3 => [.keep [4]]
 | 4 => [.keep [0, 1, 5]]
 | 5 => [.keep [0, 1, 5, 15]]
 | 6 => [.keep [0, 1, 5]]
 | 7 => [.keep [0, 1, 5]]
 | 8 => [.keep [0, 1, 5, 25]]
 | 9 => [.keep [4]]
 | 10 => [.keep [4]]
 | 100000 => [.keep [1]]
 | _ => []
@[reducible] def LP8_0 (x : (List (TTable).D)) (left : Int) (m : Nat) (st_ : St) (K : X → St → Prop) : Prop := (True) ∧ LoopE (t := TTable) (fun (i0 : Int) (v0 : Int) => (⟨[(0, .data (Ty.sl TTable) x), (1, .data TInt v0), (5, .data TInt i0)], []⟩ : St)) x (F.laws_szTableS_l0 x left) (fun v0 : Int => True) (outD (fun v0 : Int => True → K (.exit 0) (⟨[(1, .data TInt v0)], []⟩ : St)) (fun q0 : Unit => K .ret (⟨[(4, .data TInt (-1 : Int))], []⟩ : St))) m st_
def L8 (x : (List (TTable).D)) (left : Int) : Loops := fun id m st_ K => match id with
 | 0 => LP8_0 x left m st_ K
 | _ => False
theorem vc8 (x : (List (TTable).D)) (left : Int) (K : AV → Hp → Prop) : awp C8 (L8 x left) ann8 (bodyOf f8) ⟨argEnv 0 [.data (Ty.sl TTable) x, .data TInt left], []⟩ (outK tab false f8.results.toList (hasBox []) (resK (.dat TInt) K)) =
 (cond (decide (wrap64 (left - (x.length : Int)) < (0 : Int))) (K (.data TInt (-1 : Int)) []) ((∃ m_, (True) ∧ LoopE (t := TTable) (fun (i0 : Int) (v0 : Int) => (⟨[(0, .data (Ty.sl TTable) x), (1, .data TInt v0), (5, .data TInt i0)], []⟩ : St)) x (F.laws_szTableS_l0 x left) (fun v0 : Int => True) (outD (fun v0 : Int => True → K (.data TInt v0) []) (fun q0 : Unit => K (.data TInt (-1 : Int)) [])) m_ (⟨[(0, .data (Ty.sl TTable) x), (1, .data TInt (wrap64 (left - (x.length : Int)))), (5, .data TInt (0 : Int))], []⟩ : St)))) := by kernel_rfl
theorem lvc8_0 (x : (List (TTable).D)) (left : Int)  (i0 : Int) (v0 : Int) (m : Nat) (K : X → St → Prop) : awp C8 (L8 x left) ann8 (loopAt (bodyOf f8) 0) (⟨[(0, .data (Ty.sl TTable) x), (1, .data TInt v0), (5, .data TInt i0)], []⟩ : St) (thenW (fun s' => ∃ m', m' < m ∧ (L8 x left) 0 m' s' K) (exitN 0 (ann8 (behind 0)) K)) =
 (cond (decide (i0 < (x.length : Int))) ((0 ≤ i0) ∧ (i0 < (x.length : Int)) ∧ (Ln TTable (nth (t := TTable) x i0)) ∧ (0 ≤ v0) ∧ (v0 ≤ 1048576) ∧ cond (decide ((M.szTable (nth (t := TTable) x i0) v0) < (0 : Int))) (K .ret (⟨[(4, .data TInt (-1 : Int))], []⟩ : St)) ((∃ m_, m_ < m ∧ (L8 x left) 0 m_ (⟨[(0, .data (Ty.sl TTable) x), (1, .data TInt (M.szTable (nth (t := TTable) x i0) v0)), (5, .data TInt (wrap64 (i0 + (1 : Int))))], []⟩ : St) K))) (K (.exit 0) (⟨[(1, .data TInt v0)], []⟩ : St))) := by kernel_rfl
theorem con8_ok : ConOk P 8 c8 := by
 refine con_okR (fn := f8) (code := bodyOf f8) (tab_ok tab_check cmp_check) consOk8 mixed func8 rfl rfl fun args hp K h0 => ?_
 obtain ⟨a0, a1, rfl, rfl, h1⟩ := args2_elim h0
 obtain ⟨x, rfl, h2⟩ := withD_elim h1
 obtain ⟨left, rfl, h3⟩ := withD_elim h2
 obtain ⟨h_x, p0, p1, hK⟩ := h3
 have h : ok (F.laws_szTableS x left) (fun r => K (.data TInt r) []) := ok_of_eq (F.laws_szTableS_eq x left h_x p0 p1) hK
 refine ⟨⟨show (2 : Nat) ≤ 27 by decide, show (2 : Nat) ≤ 1000000 by decide⟩, ann8, (L8 x left), (.dat TInt), (loopsN1 (i0 := 0) (by kernel_rfl) ?_), ?_⟩
 ·clear h
  intro m_ s_ K_ h
  obtain ⟨hc0, i0, v0, rfl, hl0, rfl, hv0, h⟩ := (show LP8_0 x left m_ s_ K_ from h)
  rw [lvc8_0 x left i0 v0 _ K_]
  exact (loopE_step (t := TTable) hl0 h (fun ht0 h => ⟨hl0, ⟨ht0, ⟨(sm_nth h_x i0), ⟨(ok_guard h).1, have h := (ok_guard h).2; ⟨(ok_guard h).1, have h := (ok_guard h).2; (ok_cond h (fun b_16 h => (ok_ret h :)) (fun b_16 h => (loopE_next (t := TTable) (fun m hm => (show LP8_0 x left m _ _ from ⟨hc0, hm⟩)) (M.szTable (nth (t := TTable) x i0) v0) rfl hl0 ht0 (sm_len h_x) trivial (ok_ret h :))))⟩⟩⟩⟩⟩) (fun h => (h trivial)))
 ·rw [vc8 x left K]
  exact (ok_cond h (fun b_1 h => (ok_ret h :)) (fun b_1 h => (loopE_start (t := TTable) (fun m hm => ⟨trivial, hm⟩) (wrap64 (left - (x.length : Int))) rfl trivial (ok_then h (fun v0 h hv0 => (ok_ret h :)) (fun q0 h => (ok_ret h :))))))
def c118 : Con := ⟨[.dat TPart, .dat TInt], fun args hp K => args2 (fun a0 a1 => withD TPart a0 fun x => withD TInt a1 fun left => (Ln TPart x) ∧ (0 ≤ left) ∧ (left ≤ 1048576) ∧ K (.data TInt (M.szPart x left)) []) args hp, .plain⟩
def cons118 : Cons := [(152, c152)]
@[reducible] def C118 : Ctx := ⟨tab, fun t => memN t cmps, cons118, 12, [], 0, false⟩
theorem consOk118 : ConsOk P C118 := by
 refine consOk_cons (enter_ok (fn := f152) func152 (by kernel_rfl) rfl) con152_ok ?_
 exact consOk_nil
def ann118 : Nat → List Dir
 | 0 => [.fixRow 2 TPart, .keep [1, 2]]
 | 1 => [.keep [1]]
 | 2 => [.keep [1, 10]]
 | 3 => [.keep [4]]
 | 4 => [.keep [4]]
 | _ => []
def L118 (x : (TPart).D) (left : Int) : Loops := fun id m st_ K => match id with
 | _ => False
theorem vc118 (x : (TPart).D) (left : Int) (K : AV → Hp → Prop) : awp C118 (L118 x left) ann118 (bodyOf f118) ⟨argEnv 0 [.data TPart x, .data TInt left], []⟩ (outK tab false f118.results.toList (hasBox []) (resK (.dat TInt) K)) =
 ((Ln TValue x.2.2.1) ∧ (0 ≤ left) ∧ (left ≤ 1048576) ∧ cond (decide ((M.szValue x.2.2.1 left) < (0 : Int))) (K (.data TInt (-1 : Int)) []) (K (.data TInt (M.szValue x.2.2.1 left)) [])) := by kernel_rfl
theorem con118_ok : ConOk P 118 c118 := by
 refine con_okR (fn := f118) (code := bodyOf f118) (tab_ok tab_check cmp_check) consOk118 mixed func118 rfl rfl fun args hp K h0 => ?_
 obtain ⟨a0, a1, rfl, rfl, h1⟩ := args2_elim h0
 obtain ⟨x, rfl, h2⟩ := withD_elim h1
 obtain ⟨left, rfl, h3⟩ := withD_elim h2
 obtain ⟨h_x, p0, p1, hK⟩ := h3
 have h : ok (F.laws_szPart x left) (fun r => K (.data TInt r) []) := ok_of_eq (F.laws_szPart_eq x left h_x p0 p1) hK
 refine ⟨⟨show (2 : Nat) ≤ 12 by decide, show (2 : Nat) ≤ 1000000 by decide⟩, ann118, (L118 x left), (.dat TInt), (no_loops (by kernel_rfl)), ?_⟩
 ·rw [vc118 x left K]
  exact ⟨h_x.2.2.1, ⟨p0, ⟨p1, (ok_cond h (fun b_1 h => (ok_ret h :)) (fun b_1 h => (ok_ret h :)))⟩⟩⟩
def c80 : Con := ⟨[.dat (Ty.sl TPart), .dat TInt], fun args hp K => args2 (fun a0 a1 => withD (Ty.sl TPart) a0 fun x => withD TInt a1 fun left => (Ln (Ty.sl TPart) x) ∧ (0 ≤ left) ∧ (left ≤ 1048576) ∧ K (.data TInt (M.szS M.szPart x left)) []) args hp, .plain⟩
def cons80 : Cons := [(118, c118)]
@[reducible] def C80 : Ctx := ⟨tab, fun t => memN t cmps, cons80, 27, [], 0, false⟩
theorem consOk80 : ConsOk P C80 := by
 refine consOk_cons (enter_ok (fn := f118) func118 (by kernel_rfl) rfl) con118_ok ?_
 exact consOk_nil
def ann80 : Nat → List Dir
 | 0 => [.keep [0, 1]]
 | 1 => [.keep [0, 1]]
 | 2 => [.keep [0, 1, 11]]
 | 3 => [.keep [4]]
 | 4 => [.keep [0, 1, 5]]
 | 5 => [.keep [0, 1, 5, 15]]
 | 6 => [.keep [0, 1, 5]]
 | 7 => [.keep [0, 1, 5]]
 | 8 => [.keep [0, 1, 5, 25]]
 | 9 => [.keep [4]]
 | 10 => [.keep [4]]
 | 100000 => [.keep [1]]
 | _ => []
@[reducible] def LP80_0 (x : (List (TPart).D)) (left : Int) (m : Nat) (st_ : St) (K : X → St → Prop) : Prop := (True) ∧ LoopE (t := TPart) (fun (i0 : Int) (v0 : Int) => (⟨[(0, .data (Ty.sl TPart) x), (1, .data TInt v0), (5, .data TInt i0)], []⟩ : St)) x (F.laws_szPartS_l0 x left) (fun v0 : Int => True) (outD (fun v0 : Int => True → K (.exit 0) (⟨[(1, .data TInt v0)], []⟩ : St)) (fun q0 : Unit => K .ret (⟨[(4, .data TInt (-1 : Int))], []⟩ : St))) m st_
def L80 (x : (List (TPart).D)) (left : Int) : Loops := fun id m st_ K => match id with
 | 0 => LP80_0 x left m st_ K
 | _ => False
theorem vc80 (x : (List (TPart).D)) (left : Int) (K : AV → Hp → Prop) : awp C80 (L80 x left) ann80 (bodyOf f80) ⟨argEnv 0 [.data (Ty.sl TPart) x, .data TInt left], []⟩ (outK tab false f80.results.toList (hasBox []) (resK (.dat TInt) K)) =
 (cond (decide (wrap64 (left - (x.length : Int)) < (0 : Int))) (K (.data TInt (-1 : Int)) []) ((∃ m_, (True) ∧ LoopE (t := TPart) (fun (i0 : Int) (v0 : Int) => (⟨[(0, .data (Ty.sl TPart) x), (1, .data TInt v0), (5, .data TInt i0)], []⟩ : St)) x (F.laws_szPartS_l0 x left) (fun v0 : Int => True) (outD (fun v0 : Int => True → K (.data TInt v0) []) (fun q0 : Unit => K (.data TInt (-1 : Int)) [])) m_ (⟨[(0, .data (Ty.sl TPart) x), (1, .data TInt (wrap64 (left - (x.length : Int)))), (5, .data TInt (0 : Int))], []⟩ : St)))) := by kernel_rfl
theorem lvc80_0 (x : (List (TPart).D)) (left : Int)  (i0 : Int) (v0 : Int) (m : Nat) (K : X → St → Prop) : awp C80 (L80 x left) ann80 (loopAt (bodyOf f80) 0) (⟨[(0, .data (Ty.sl TPart) x), (1, .data TInt v0), (5, .data TInt i0)], []⟩ : St) (thenW (fun s' => ∃ m', m' < m ∧ (L80 x left) 0 m' s' K) (exitN 0 (ann80 (behind 0)) K)) =
 (cond (decide (i0 < (x.length : Int))) ((0 ≤ i0) ∧ (i0 < (x.length : Int)) ∧ (Ln TPart (nth (t := TPart) x i0)) ∧ (0 ≤ v0) ∧ (v0 ≤ 1048576) ∧ cond (decide ((M.szPart (nth (t := TPart) x i0) v0) < (0 : Int))) (K .ret (⟨[(4, .data TInt (-1 : Int))], []⟩ : St)) ((∃ m_, m_ < m ∧ (L80 x left) 0 m_ (⟨[(0, .data (Ty.sl TPart) x), (1, .data TInt (M.szPart (nth (t := TPart) x i0) v0)), (5, .data TInt (wrap64 (i0 + (1 : Int))))], []⟩ : St) K))) (K (.exit 0) (⟨[(1, .data TInt v0)], []⟩ : St))) := by kernel_rfl
theorem con80_ok : ConOk P 80 c80 := by
 refine con_okR (fn := f80) (code := bodyOf f80) (tab_ok tab_check cmp_check) consOk80 mixed func80 rfl rfl fun args hp K h0 => ?_
 obtain ⟨a0, a1, rfl, rfl, h1⟩ := args2_elim h0
 obtain ⟨x, rfl, h2⟩ := withD_elim h1
 obtain ⟨left, rfl, h3⟩ := withD_elim h2
 obtain ⟨h_x, p0, p1, hK⟩ := h3
 have h : ok (F.laws_szPartS x left) (fun r => K (.data TInt r) []) := ok_of_eq (F.laws_szPartS_eq x left h_x p0 p1) hK
 refine ⟨⟨show (2 : Nat) ≤ 27 by decide, show (2 : Nat) ≤ 1000000 by decide⟩, ann80, (L80 x left), (.dat TInt), (loopsN1 (i0 := 0) (by kernel_rfl) ?_), ?_⟩
 ·clear h
  intro m_ s_ K_ h
  obtain ⟨hc0, i0, v0, rfl, hl0, rfl, hv0, h⟩ := (show LP80_0 x left m_ s_ K_ from h)
  rw [lvc80_0 x left i0 v0 _ K_]
  exact (loopE_step (t := TPart) hl0 h (fun ht0 h => ⟨hl0, ⟨ht0, ⟨(sm_nth h_x i0), ⟨(ok_guard h).1, have h := (ok_guard h).2; ⟨(ok_guard h).1, have h := (ok_guard h).2; (ok_cond h (fun b_16 h => (ok_ret h :)) (fun b_16 h => (loopE_next (t := TPart) (fun m hm => (show LP80_0 x left m _ _ from ⟨hc0, hm⟩)) (M.szPart (nth (t := TPart) x i0) v0) rfl hl0 ht0 (sm_len h_x) trivial (ok_ret h :))))⟩⟩⟩⟩⟩) (fun h => (h trivial)))
 ·rw [vc80 x left K]
  exact (ok_cond h (fun b_1 h => (ok_ret h :)) (fun b_1 h => (loopE_start (t := TPart) (fun m hm => ⟨trivial, hm⟩) (wrap64 (left - (x.length : Int))) rfl trivial (ok_then h (fun v0 h hv0 => (ok_ret h :)) (fun q0 h => (ok_ret h :))))))
def c81 : Con := ⟨[.dat (Ty.sl TInt), .dat TInt], fun args hp K => args2 (fun a0 a1 => withD (Ty.sl TInt) a0 fun x => withD TInt a1 fun left => (Ln (Ty.sl TInt) x) ∧ (0 ≤ left) ∧ (left ≤ 1048576) ∧ K (.data TInt (M.szLen x.length left)) []) args hp, .plain⟩
def cons81 : Cons := []
@[reducible] def C81 : Ctx := ⟨tab, fun t => memN t cmps, cons81, 12, [], 0, false⟩
theorem consOk81 : ConsOk P C81 := by
 exact consOk_nil
def ann81 : Nat → List Dir
 | 0 => [.keep [0, 1]]
 | 1 => [.keep [1]]
 | 2 => [.keep [1, 10]]
 | 3 => [.keep [4]]
 | 4 => [.keep [4]]
 | _ => []
def L81 (x : (List Int)) (left : Int) : Loops := fun id m st_ K => match id with
 | _ => False
theorem vc81 (x : (List Int)) (left : Int) (K : AV → Hp → Prop) : awp C81 (L81 x left) ann81 (bodyOf f81) ⟨argEnv 0 [.data (Ty.sl TInt) x, .data TInt left], []⟩ (outK tab false f81.results.toList (hasBox []) (resK (.dat TInt) K)) =
 (cond (decide (wrap64 (left - (x.length : Int)) < (0 : Int))) (K (.data TInt (-1 : Int)) []) (K (.data TInt (wrap64 (left - (x.length : Int)))) [])) := by kernel_rfl
theorem con81_ok : ConOk P 81 c81 := by
 refine con_okR (fn := f81) (code := bodyOf f81) (tab_ok tab_check cmp_check) consOk81 mixed func81 rfl rfl fun args hp K h0 => ?_
 obtain ⟨a0, a1, rfl, rfl, h1⟩ := args2_elim h0
 obtain ⟨x, rfl, h2⟩ := withD_elim h1
 obtain ⟨left, rfl, h3⟩ := withD_elim h2
 obtain ⟨h_x, p0, p1, hK⟩ := h3
 have h : ok (F.laws_szIntS x left) (fun r => K (.data TInt r) []) := ok_of_eq (F.laws_szIntS_eq x left h_x p0 p1) hK
 refine ⟨⟨show (2 : Nat) ≤ 12 by decide, show (2 : Nat) ≤ 1000000 by decide⟩, ann81, (L81 x left), (.dat TInt), (no_loops (by kernel_rfl)), ?_⟩
 ·rw [vc81 x left K]
  exact (ok_cond h (fun b_1 h => (ok_ret h :)) (fun b_1 h => (ok_ret h :)))
def c36 : Con := ⟨[.dat TStep, .dat TInt], fun args hp K => args2 (fun a0 a1 => withD TStep a0 fun x => withD TInt a1 fun left => (Ln TStep x) ∧ (0 ≤ left) ∧ (left ≤ 1048576) ∧ K (.data TInt (M.szStep x left)) []) args hp, .plain⟩
def cons36 : Cons := [(80, c80), (81, c81)]
@[reducible] def C36 : Ctx := ⟨tab, fun t => memN t cmps, cons36, 18, [], 0, false⟩
theorem consOk36 : ConsOk P C36 := by
 refine consOk_cons (enter_ok (fn := f80) func80 (by kernel_rfl) rfl) con80_ok ?_
 refine consOk_cons (enter_ok (fn := f81) func81 (by kernel_rfl) rfl) con81_ok ?_
 exact consOk_nil
def ann36 : Nat → List Dir
 | 0 => [.fixRow 2 TStep, .keep [1, 2]]
 | 1 => [.keep [1, 2]]
 | 2 => [.keep [1, 2, 10]]
 | 3 => [.keep [4]]
 | 4 => [.keep [1]]
 | 5 => [.keep [1, 16]]
 | 6 => [.keep [4]]
 | 7 => [.keep [4]]
 | _ => []
def L36 (x : (TStep).D) (left : Int) : Loops := fun id m st_ K => match id with
 | _ => False
theorem vc36 (x : (TStep).D) (left : Int) (K : AV → Hp → Prop) : awp C36 (L36 x left) ann36 (bodyOf f36) ⟨argEnv 0 [.data TStep x, .data TInt left], []⟩ (outK tab false f36.results.toList (hasBox []) (resK (.dat TInt) K)) =
 ((Ln (Ty.sl TPart) x.2.2.2.2.1) ∧ (0 ≤ left) ∧ (left ≤ 1048576) ∧ cond (decide ((M.szS M.szPart x.2.2.2.2.1 left) < (0 : Int))) (K (.data TInt (-1 : Int)) []) ((Ln (Ty.sl TInt) x.2.2.2.2.2.1) ∧ (0 ≤ (M.szS M.szPart x.2.2.2.2.1 left)) ∧ ((M.szS M.szPart x.2.2.2.2.1 left) ≤ 1048576) ∧ cond (decide ((M.szLen x.2.2.2.2.2.1.length (M.szS M.szPart x.2.2.2.2.1 left)) < (0 : Int))) (K (.data TInt (-1 : Int)) []) (K (.data TInt (M.szLen x.2.2.2.2.2.1.length (M.szS M.szPart x.2.2.2.2.1 left))) []))) := by kernel_rfl
theorem con36_ok : ConOk P 36 c36 := by
 refine con_okR (fn := f36) (code := bodyOf f36) (tab_ok tab_check cmp_check) consOk36 mixed func36 rfl rfl fun args hp K h0 => ?_
 obtain ⟨a0, a1, rfl, rfl, h1⟩ := args2_elim h0
 obtain ⟨x, rfl, h2⟩ := withD_elim h1
 obtain ⟨left, rfl, h3⟩ := withD_elim h2
 obtain ⟨h_x, p0, p1, hK⟩ := h3
 have h : ok (F.laws_szStep x left) (fun r => K (.data TInt r) []) := ok_of_eq (F.laws_szStep_eq x left h_x p0 p1) hK
 refine ⟨⟨show (2 : Nat) ≤ 18 by decide, show (2 : Nat) ≤ 1000000 by decide⟩, ann36, (L36 x left), (.dat TInt), (no_loops (by kernel_rfl)), ?_⟩
 ·rw [vc36 x left K]
  exact ⟨h_x.2.2.2.2.1, ⟨p0, ⟨p1, (ok_cond h (fun b_1 h => (ok_ret h :)) (fun b_1 h => ⟨h_x.2.2.2.2.2.1, ⟨(ok_guard h).1, have h := (ok_guard h).2; ⟨(ok_guard h).1, have h := (ok_guard h).2; (ok_cond h (fun b_4 h => (ok_ret h :)) (fun b_4 h => (ok_ret h :)))⟩⟩⟩))⟩⟩⟩
def c9 : Con := ⟨[.dat (Ty.sl TStep), .dat TInt], fun args hp K => args2 (fun a0 a1 => withD (Ty.sl TStep) a0 fun x => withD TInt a1 fun left => (Ln (Ty.sl TStep) x) ∧ (0 ≤ left) ∧ (left ≤ 1048576) ∧ K (.data TInt (M.szS M.szStep x left)) []) args hp, .plain⟩
def cons9 : Cons := [(36, c36)]
@[reducible] def C9 : Ctx := ⟨tab, fun t => memN t cmps, cons9, 27, [], 0, false⟩
theorem consOk9 : ConsOk P C9 := by
 refine consOk_cons (enter_ok (fn := f36) func36 (by kernel_rfl) rfl) con36_ok ?_
 exact consOk_nil
def ann9 : Nat → List Dir
 | 0 => [.keep [0, 1]]
 | 1 => [.keep [0, 1]]
 | 2 => [.keep [0, 1, 11]]
 | 3 => [.keep [4]]
 | 4 => [.keep [0, 1, 5]]
 | 5 => [.keep [0, 1, 5, 15]]
 | 6 => [.keep [0, 1, 5]]
 | 7 => [.keep [0, 1, 5]]
 | 8 => [.keep [0, 1, 5, 25]]
 | 9 => [.keep [4]]
 | 10 => [.keep [4]]
 | 100000 => [.keep [1]]
 | _ => []
@[reducible] def LP9_0 (x : (List (TStep).D)) (left : Int) (m : Nat) (st_ : St) (K : X → St → Prop) : Prop := (True) ∧ LoopE (t := TStep) (fun (i0 : Int) (v0 : Int) => (⟨[(0, .data (Ty.sl TStep) x), (1, .data TInt v0), (5, .data TInt i0)], []⟩ : St)) x (F.laws_szStepS_l0 x left) (fun v0 : Int => True) (outD (fun v0 : Int => True → K (.exit 0) (⟨[(1, .data TInt v0)], []⟩ : St)) (fun q0 : Unit => K .ret (⟨[(4, .data TInt (-1 : Int))], []⟩ : St))) m st_
def L9 (x : (List (TStep).D)) (left : Int) : Loops := fun id m st_ K => match id with
 | 0 => LP9_0 x left m st_ K
 | _ => False
theorem vc9 (x : (List (TStep).D)) (left : Int) (K : AV → Hp → Prop) : awp C9 (L9 x left) ann9 (bodyOf f9) ⟨argEnv 0 [.data (Ty.sl TStep) x, .data TInt left], []⟩ (outK tab false f9.results.toList (hasBox []) (resK (.dat TInt) K)) =
 (cond (decide (wrap64 (left - (x.length : Int)) < (0 : Int))) (K (.data TInt (-1 : Int)) []) ((∃ m_, (True) ∧ LoopE (t := TStep) (fun (i0 : Int) (v0 : Int) => (⟨[(0, .data (Ty.sl TStep) x), (1, .data TInt v0), (5, .data TInt i0)], []⟩ : St)) x (F.laws_szStepS_l0 x left) (fun v0 : Int => True) (outD (fun v0 : Int => True → K (.data TInt v0) []) (fun q0 : Unit => K (.data TInt (-1 : Int)) [])) m_ (⟨[(0, .data (Ty.sl TStep) x), (1, .data TInt (wrap64 (left - (x.length : Int)))), (5, .data TInt (0 : Int))], []⟩ : St)))) := by kernel_rfl
theorem lvc9_0 (x : (List (TStep).D)) (left : Int)  (i0 : Int) (v0 : Int) (m : Nat) (K : X → St → Prop) : awp C9 (L9 x left) ann9 (loopAt (bodyOf f9) 0) (⟨[(0, .data (Ty.sl TStep) x), (1, .data TInt v0), (5, .data TInt i0)], []⟩ : St) (thenW (fun s' => ∃ m', m' < m ∧ (L9 x left) 0 m' s' K) (exitN 0 (ann9 (behind 0)) K)) =
 (cond (decide (i0 < (x.length : Int))) ((0 ≤ i0) ∧ (i0 < (x.length : Int)) ∧ (Ln TStep (nth (t := TStep) x i0)) ∧ (0 ≤ v0) ∧ (v0 ≤ 1048576) ∧ cond (decide ((M.szStep (nth (t := TStep) x i0) v0) < (0 : Int))) (K .ret (⟨[(4, .data TInt (-1 : Int))], []⟩ : St)) ((∃ m_, m_ < m ∧ (L9 x left) 0 m_ (⟨[(0, .data (Ty.sl TStep) x), (1, .data TInt (M.szStep (nth (t := TStep) x i0) v0)), (5, .data TInt (wrap64 (i0 + (1 : Int))))], []⟩ : St) K))) (K (.exit 0) (⟨[(1, .data TInt v0)], []⟩ : St))) := by kernel_rfl
theorem con9_ok : ConOk P 9 c9 := by
 refine con_okR (fn := f9) (code := bodyOf f9) (tab_ok tab_check cmp_check) consOk9 mixed func9 rfl rfl fun args hp K h0 => ?_
 obtain ⟨a0, a1, rfl, rfl, h1⟩ := args2_elim h0
 obtain ⟨x, rfl, h2⟩ := withD_elim h1
 obtain ⟨left, rfl, h3⟩ := withD_elim h2
 obtain ⟨h_x, p0, p1, hK⟩ := h3
 have h : ok (F.laws_szStepS x left) (fun r => K (.data TInt r) []) := ok_of_eq (F.laws_szStepS_eq x left h_x p0 p1) hK
 refine ⟨⟨show (2 : Nat) ≤ 27 by decide, show (2 : Nat) ≤ 1000000 by decide⟩, ann9, (L9 x left), (.dat TInt), (loopsN1 (i0 := 0) (by kernel_rfl) ?_), ?_⟩
 ·clear h
  intro m_ s_ K_ h
  obtain ⟨hc0, i0, v0, rfl, hl0, rfl, hv0, h⟩ := (show LP9_0 x left m_ s_ K_ from h)
  rw [lvc9_0 x left i0 v0 _ K_]
  exact (loopE_step (t := TStep) hl0 h (fun ht0 h => ⟨hl0, ⟨ht0, ⟨(sm_nth h_x i0), ⟨(ok_guard h).1, have h := (ok_guard h).2; ⟨(ok_guard h).1, have h := (ok_guard h).2; (ok_cond h (fun b_16 h => (ok_ret h :)) (fun b_16 h => (loopE_next (t := TStep) (fun m hm => (show LP9_0 x left m _ _ from ⟨hc0, hm⟩)) (M.szStep (nth (t := TStep) x i0) v0) rfl hl0 ht0 (sm_len h_x) trivial (ok_ret h :))))⟩⟩⟩⟩⟩) (fun h => (h trivial)))
 ·rw [vc9 x left K]
  exact (ok_cond h (fun b_1 h => (ok_ret h :)) (fun b_1 h => (loopE_start (t := TStep) (fun m hm => ⟨trivial, hm⟩) (wrap64 (left - (x.length : Int))) rfl trivial (ok_then h (fun v0 h hv0 => (ok_ret h :)) (fun q0 h => (ok_ret h :))))))
def c62 : Con := ⟨[.dat TInt, .dat TInt, .dat TInt], fun args hp K => args3 (fun a0 a1 a2 => withD TInt a0 fun n => withD TInt a1 fun low => withD TInt a2 fun high => K (.data Ty.bool (M.inR n low high)) []) args hp, .plain⟩
def cons62 : Cons := []
@[reducible] def C62 : Ctx := ⟨tab, fun t => memN t cmps, cons62, 15, [], 0, false⟩
theorem consOk62 : ConsOk P C62 := by
 exact consOk_nil
def ann62 : Nat → List Dir
 | 0 => [.keep [0, 1, 2]]
 | 1 => [.keep [6]]
 | _ => []
def L62 (n : Int) (low : Int) (high : Int) : Loops := fun id m st_ K => match id with
 | _ => False
theorem vc62 (n : Int) (low : Int) (high : Int) (K : AV → Hp → Prop) : awp C62 (L62 n low high) ann62 (bodyOf f62) ⟨argEnv 0 [.data TInt n, .data TInt low, .data TInt high], []⟩ (outK tab false f62.results.toList (hasBox []) (resK (.dat Ty.bool) K)) =
 (cond ((decide (low ≤ n)) == true) (K (.data Ty.bool (decide (n ≤ high))) []) (K (.data Ty.bool false) [])) := by kernel_rfl
theorem con62_ok : ConOk P 62 c62 := by
 refine con_okR (fn := f62) (code := bodyOf f62) (tab_ok tab_check cmp_check) consOk62 mixed func62 rfl rfl fun args hp K h0 => ?_
 obtain ⟨a0, a1, a2, rfl, rfl, h1⟩ := args3_elim h0
 obtain ⟨n, rfl, h2⟩ := withD_elim h1
 obtain ⟨low, rfl, h3⟩ := withD_elim h2
 obtain ⟨high, rfl, h4⟩ := withD_elim h3
 have hK := h4
 have h : ok (F.spec_l1In n low high) (fun r => K (.data Ty.bool r) []) := ok_of_eq (F.spec_l1In_eq n low high) hK
 refine ⟨⟨show (3 : Nat) ≤ 15 by decide, show (3 : Nat) ≤ 1000000 by decide⟩, ann62, (L62 n low high), (.dat Ty.bool), (no_loops (by kernel_rfl)), ?_⟩
 ·rw [vc62 n low high K]
  exact (ok_cond h (fun b_1 h => (ok_ret h :)) (fun b_1 h => (ok_ret h :)))
def c126 : Con := ⟨[.dat (Ty.sl TColumn)], fun args hp K => args1 (fun a0 => withD (Ty.sl TColumn) a0 fun columns => (Sm (Ty.sl TColumn) columns) ∧ K (.data Ty.bool (M.columnsOk columns)) []) args hp, .plain⟩
def cons126 : Cons := [(62, c62)]
@[reducible] def C126 : Ctx := ⟨tab, fun t => memN t cmps, cons126, 20, [], 0, false⟩
theorem consOk126 : ConsOk P C126 := by
 refine consOk_cons (enter_ok (fn := f62) func62 (by kernel_rfl) rfl) con62_ok ?_
 exact consOk_nil
def ann126 : Nat → List Dir
 | 0 => [.keep [0]]
 | 1 => [.keep [0, 3]]
 | 2 => [.keep [0, 3, 7]]
 | 3 => [.keep [0, 3]]
 | 4 => [.keep [0, 3, 16]]
 | 5 => [.keep [2]]
 | 6 => [.keep [2]]
 | 100000 => [.keep [0]]
 | _ => []
@[reducible] def LP126_0 (columns : (List (TColumn).D)) (m : Nat) (st_ : St) (K : X → St → Prop) : Prop := (True) ∧ LoopE (t := TColumn) (fun (i0 : Int) (v0 : Unit) => (⟨[(0, .data (Ty.sl TColumn) columns), (3, .data TInt i0)], []⟩ : St)) columns (F.spec_ColumnsOk_l0 columns) (fun v0 : Unit => True) (outD (fun v0 : Unit => True → K (.exit 0) (⟨[(0, .data (Ty.sl TColumn) columns)], []⟩ : St)) (fun q0 : Unit => K .ret (⟨[(2, .data Ty.bool false)], []⟩ : St))) m st_
def L126 (columns : (List (TColumn).D)) : Loops := fun id m st_ K => match id with
 | 0 => LP126_0 columns m st_ K
 | _ => False
theorem vc126 (columns : (List (TColumn).D)) (K : AV → Hp → Prop) : awp C126 (L126 columns) ann126 (bodyOf f126) ⟨argEnv 0 [.data (Ty.sl TColumn) columns], []⟩ (outK tab false f126.results.toList (hasBox []) (resK (.dat Ty.bool) K)) =
 ((∃ m_, (True) ∧ LoopE (t := TColumn) (fun (i0 : Int) (v0 : Unit) => (⟨[(0, .data (Ty.sl TColumn) columns), (3, .data TInt i0)], []⟩ : St)) columns (F.spec_ColumnsOk_l0 columns) (fun v0 : Unit => True) (outD (fun v0 : Unit => True → K (.data Ty.bool (decide ((columns.length : Int) ≤ (4 : Int)))) []) (fun q0 : Unit => K (.data Ty.bool false) [])) m_ (⟨[(0, .data (Ty.sl TColumn) columns), (3, .data TInt (0 : Int))], []⟩ : St))) := by kernel_rfl
theorem lvc126_0 (columns : (List (TColumn).D))  (i0 : Int) (v0 : Unit) (m : Nat) (K : X → St → Prop) : awp C126 (L126 columns) ann126 (loopAt (bodyOf f126) 0) (⟨[(0, .data (Ty.sl TColumn) columns), (3, .data TInt i0)], []⟩ : St) (thenW (fun s' => ∃ m', m' < m ∧ (L126 columns) 0 m' s' K) (exitN 0 (ann126 (behind 0)) K)) =
 (cond (decide (i0 < (columns.length : Int))) ((0 ≤ i0) ∧ (i0 < (columns.length : Int)) ∧ cond (!(M.inR ((nth (t := TColumn) columns i0).1) (1 : Int) (3 : Int))) (K .ret (⟨[(2, .data Ty.bool false)], []⟩ : St)) ((∃ m_, m_ < m ∧ (L126 columns) 0 m_ (⟨[(0, .data (Ty.sl TColumn) columns), (3, .data TInt (wrap64 (i0 + (1 : Int))))], []⟩ : St) K))) (K (.exit 0) (⟨[(0, .data (Ty.sl TColumn) columns)], []⟩ : St))) := by kernel_rfl
theorem con126_ok : ConOk P 126 c126 := by
 refine con_okR (fn := f126) (code := bodyOf f126) (tab_ok tab_check cmp_check) consOk126 mixed func126 rfl rfl fun args hp K h0 => ?_
 obtain ⟨a0, rfl, rfl, h1⟩ := args1_elim h0
 obtain ⟨columns, rfl, h2⟩ := withD_elim h1
 obtain ⟨h_columns, hK⟩ := h2
 have h : ok (F.spec_ColumnsOk columns) (fun r => K (.data Ty.bool r) []) := ok_of_eq (F.spec_ColumnsOk_eq columns h_columns) hK
 refine ⟨⟨show (1 : Nat) ≤ 20 by decide, show (1 : Nat) ≤ 1000000 by decide⟩, ann126, (L126 columns), (.dat Ty.bool), (loopsN1 (i0 := 0) (by kernel_rfl) ?_), ?_⟩
 ·clear h
  intro m_ s_ K_ h
  obtain ⟨hc0, i0, v0, rfl, hl0, rfl, hv0, h⟩ := (show LP126_0 columns m_ s_ K_ from h)
  rw [lvc126_0 columns i0 v0 _ K_]
  exact (loopE_step (t := TColumn) hl0 h (fun ht0 h => ⟨hl0, ⟨ht0, (ok_cond h (fun b_9 h => (ok_ret h :)) (fun b_9 h => (loopE_next (t := TColumn) (fun m hm => (show LP126_0 columns m _ _ from ⟨hc0, hm⟩)) () rfl hl0 ht0 (sm_len h_columns) trivial (ok_ret h :))))⟩⟩) (fun h => (h trivial)))
 ·rw [vc126 columns K]
  exact (loopE_start (t := TColumn) (fun m hm => ⟨trivial, hm⟩) () rfl trivial (ok_then h (fun v0 h hv0 => (ok_ret h :)) (fun q0 h => (ok_ret h :))))
def c192 : Con := ⟨[.dat Ty.str], fun args hp K => args1 (fun a0 => withD Ty.str a0 fun s => (Sm Ty.str s) ∧ K (.data Ty.bool (M.text s)) []) args hp, .plain⟩
def cons192 : Cons := []
@[reducible] def C192 : Ctx := ⟨tab, fun t => memN t cmps, cons192, 23, [], 0, false⟩
theorem consOk192 : ConsOk P C192 := by
 exact consOk_nil
def ann192 : Nat → List Dir
 | 0 => [.keep [0]]
 | 1 => [.keep [0, 3]]
 | 2 => [.keep [0, 3, 7]]
 | 3 => [.keep [0, 3]]
 | 4 => [.keep [0, 3, 19]]
 | 5 => [.keep [2]]
 | 6 => [.keep [2]]
 | 100000 => [.keep [0]]
 | _ => []
@[reducible] def LP192_0 (s : ByteArray) (m : Nat) (st_ : St) (K : X → St → Prop) : Prop := (True) ∧ LoopI (fun (i0 : Int) (v0 : Unit) => (⟨[(0, .data Ty.str s), (3, .data TInt i0)], []⟩ : St)) (0 : Int) (s.size : Int) (F.spec_l1Text_l0 s) (fun v0 : Unit => True) (outD (fun v0 : Unit => True → K (.exit 0) (⟨[(0, .data Ty.str s)], []⟩ : St)) (fun q0 : Unit => K .ret (⟨[(2, .data Ty.bool false)], []⟩ : St))) m st_
def L192 (s : ByteArray) : Loops := fun id m st_ K => match id with
 | 0 => LP192_0 s m st_ K
 | _ => False
theorem vc192 (s : ByteArray) (K : AV → Hp → Prop) : awp C192 (L192 s) ann192 (bodyOf f192) ⟨argEnv 0 [.data Ty.str s], []⟩ (outK tab false f192.results.toList (hasBox []) (resK (.dat Ty.bool) K)) =
 ((∃ m_, (True) ∧ LoopI (fun (i0 : Int) (v0 : Unit) => (⟨[(0, .data Ty.str s), (3, .data TInt i0)], []⟩ : St)) (0 : Int) (s.size : Int) (F.spec_l1Text_l0 s) (fun v0 : Unit => True) (outD (fun v0 : Unit => True → K (.data Ty.bool (decide ((s.size : Int) ≤ (6 : Int)))) []) (fun q0 : Unit => K (.data Ty.bool false) [])) m_ (⟨[(0, .data Ty.str s), (3, .data TInt (0 : Int))], []⟩ : St))) := by kernel_rfl
theorem lvc192_0 (s : ByteArray)  (i0 : Int) (v0 : Unit) (m : Nat) (K : X → St → Prop) : awp C192 (L192 s) ann192 (loopAt (bodyOf f192) 0) (⟨[(0, .data Ty.str s), (3, .data TInt i0)], []⟩ : St) (thenW (fun s' => ∃ m', m' < m ∧ (L192 s) 0 m' s' K) (exitN 0 (ann192 (behind 0)) K)) =
 (cond (decide (i0 < (s.size : Int))) ((0 ≤ i0) ∧ (i0 < (s.size : Int)) ∧ cond ((decide (((s.get! i0.toNat).toNat : Int) < (97 : Int))) == false) ((0 ≤ i0) ∧ (i0 < (s.size : Int)) ∧ cond (decide ((122 : Int) < ((s.get! i0.toNat).toNat : Int))) (K .ret (⟨[(2, .data Ty.bool false)], []⟩ : St)) ((∃ m_, m_ < m ∧ (L192 s) 0 m_ (⟨[(0, .data Ty.str s), (3, .data TInt (wrap64 (i0 + (1 : Int))))], []⟩ : St) K))) (K .ret (⟨[(2, .data Ty.bool false)], []⟩ : St))) (K (.exit 0) (⟨[(0, .data Ty.str s)], []⟩ : St))) := by kernel_rfl
theorem con192_ok : ConOk P 192 c192 := by
 refine con_okR (fn := f192) (code := bodyOf f192) (tab_ok tab_check cmp_check) consOk192 mixed func192 rfl rfl fun args hp K h0 => ?_
 obtain ⟨a0, rfl, rfl, h1⟩ := args1_elim h0
 obtain ⟨s, rfl, h2⟩ := withD_elim h1
 obtain ⟨h_s, hK⟩ := h2
 have h : ok (F.spec_l1Text s) (fun r => K (.data Ty.bool r) []) := ok_of_eq (F.spec_l1Text_eq s h_s) hK
 refine ⟨⟨show (1 : Nat) ≤ 23 by decide, show (1 : Nat) ≤ 1000000 by decide⟩, ann192, (L192 s), (.dat Ty.bool), (loopsN1 (i0 := 0) (by kernel_rfl) ?_), ?_⟩
 ·clear h
  intro m_ s_ K_ h
  obtain ⟨hc0, i0, v0, rfl, hl0, rfl, hv0, h⟩ := (show LP192_0 s m_ s_ K_ from h)
  rw [lvc192_0 s i0 v0 _ K_]
  exact (loopI_step h (fun ht0 h => ⟨hl0, ⟨ht0, (ok_cond h (fun b_11 h => ⟨hl0, ⟨ht0, (ok_cond h (fun b_12 h => (ok_ret h :)) (fun b_12 h => (loopI_next (fun m hm => (show LP192_0 s m _ _ from ⟨hc0, hm⟩)) () rfl hl0 low0 ht0 (sm_size h_s) trivial (ok_ret h :))))⟩⟩) (fun b_11 h => (ok_ret h :)))⟩⟩) (fun h => (h trivial)))
 ·rw [vc192 s K]
  exact (loopI_start (fun m hm => ⟨trivial, hm⟩) (0 : Int) () rfl (Int.natCast_nonneg 0) trivial (ok_then h (fun v0 h hv0 => (ok_ret h :)) (fun q0 h => (ok_ret h :))))
def c157 : Con := ⟨[.dat TValue], fun args hp K => args1 (fun a0 => withD TValue a0 fun v => (Sm TValue v) ∧ K (.data Ty.bool (M.valueOk v)) []) args hp, .plain⟩
def cons157 : Cons := [(62, c62), (192, c192)]
@[reducible] def C157 : Ctx := ⟨tab, fun t => memN t cmps, cons157, 45, [], 0, false⟩
theorem consOk157 : ConsOk P C157 := by
 refine consOk_cons (enter_ok (fn := f62) func62 (by kernel_rfl) rfl) con62_ok ?_
 refine consOk_cons (enter_ok (fn := f192) func192 (by kernel_rfl) rfl) con192_ok ?_
 exact consOk_nil
def ann157 : Nat → List Dir
 | 0 => [.fixRow 1 TValue, .keep [1]]
 | 1 => [.keep [1, 4]]
 | 2 => [.keep [1, 4, 5]]
 | 3 => [.keep [2]]
 | 4 => [.keep [1, 4, 15]]
 | 5 => [.keep [2]]
 | 6 => [.keep [1, 4, 25]]
 | 7 => [.keep [2]]
 | 8 => [.keep [1, 35]]
 | 9 => [.keep [2]]
 | 10 => [.keep [2]]
 | _ => []
def L157 (v : (TValue).D) : Loops := fun id m st_ K => match id with
 | _ => False
theorem vc157 (v : (TValue).D) (K : AV → Hp → Prop) : awp C157 (L157 v) ann157 (bodyOf f157) ⟨argEnv 0 [.data TValue v], []⟩ (outK tab false f157.results.toList (hasBox []) (resK (.dat Ty.bool) K)) =
 (cond (decide (v.1 = (0 : Int))) (cond ((decide (v.2.1 = (0 : Int))) == true) (K (.data Ty.bool (decide (v.2.2.1 = (⟨#[]⟩ : ByteArray)))) []) (K (.data Ty.bool false) [])) (cond (decide (v.1 = (1 : Int))) (cond ((M.inR v.2.1 (-9999 : Int) (9999 : Int)) == true) (K (.data Ty.bool (decide (v.2.2.1 = (⟨#[]⟩ : ByteArray)))) []) (K (.data Ty.bool false) [])) (cond (decide (v.1 = (2 : Int))) (cond ((decide (v.2.1 = (0 : Int))) == true) ((Sm Ty.str v.2.2.1) ∧ K (.data Ty.bool (M.text v.2.2.1)) []) (K (.data Ty.bool false) [])) (cond (decide (v.1 = (3 : Int))) (cond ((M.inR v.2.1 (0 : Int) (1 : Int)) == true) (K (.data Ty.bool (decide (v.2.2.1 = (⟨#[]⟩ : ByteArray)))) []) (K (.data Ty.bool false) [])) (K (.data Ty.bool false) []))))) := by kernel_rfl
theorem con157_ok : ConOk P 157 c157 := by
 refine con_okR (fn := f157) (code := bodyOf f157) (tab_ok tab_check cmp_check) consOk157 mixed func157 rfl rfl fun args hp K h0 => ?_
 obtain ⟨a0, rfl, rfl, h1⟩ := args1_elim h0
 obtain ⟨v, rfl, h2⟩ := withD_elim h1
 obtain ⟨h_v, hK⟩ := h2
 have h : ok (F.spec_ValueOk v) (fun r => K (.data Ty.bool r) []) := ok_of_eq (F.spec_ValueOk_eq v h_v) hK
 refine ⟨⟨show (1 : Nat) ≤ 45 by decide, show (1 : Nat) ≤ 1000000 by decide⟩, ann157, (L157 v), (.dat Ty.bool), (no_loops (by kernel_rfl)), ?_⟩
 ·rw [vc157 v K]
  exact (ok_cond h (fun b_1 h => (ok_cond h (fun b_2 h => (ok_ret h :)) (fun b_2 h => (ok_ret h :)))) (fun b_1 h => (ok_cond h (fun b_3 h => (ok_cond h (fun b_4 h => (ok_ret h :)) (fun b_4 h => (ok_ret h :)))) (fun b_3 h => (ok_cond h (fun b_5 h => (ok_cond h (fun b_6 h => ⟨h_v.2.2.1, (ok_ret h :)⟩) (fun b_6 h => (ok_ret h :)))) (fun b_5 h => (ok_cond h (fun b_7 h => (ok_cond h (fun b_8 h => (ok_ret h :)) (fun b_8 h => (ok_ret h :)))) (fun b_7 h => (ok_ret h :)))))))))
def c127 : Con := ⟨[.dat (Ty.sl TColumn), .mv, .dat TPart], fun args hp K => hpN 0 false TInt (fun kinds => args3 (fun a0 a1 a2 => withD (Ty.sl TColumn) a0 fun columns => withO 0 a1 (withD TPart a2 fun p => (Sm (Ty.sl TColumn) columns) ∧ (Sm (Ty.sl TInt) kinds) ∧ (Sm TPart p) ∧ (kinds.length ≤ 1000) ∧ (∀ r : (List Int) × Bool, r = (M.l4Step columns kinds p) → K (.tup [.own 0 none, .data Ty.bool r.2]) [(0, .arr false TInt r.1)]))) args []) hp, .mv⟩
def cons127 : Cons := [(62, c62), (157, c157)]
@[reducible] def C127 : Ctx := ⟨tab, fun t => memN t cmps, cons127, 191, [], 0, true⟩
theorem consOk127 : ConsOk P C127 := by
 refine consOk_cons (enter_ok (fn := f62) func62 (by kernel_rfl) rfl) con62_ok ?_
 refine consOk_cons (enter_ok (fn := f157) func157 (by kernel_rfl) rfl) con157_ok ?_
 exact consOk_nil
def ann127 : Nat → List Dir
 | 0 => [.fixRow 5 TPart, .keep [0, 1, 5]]
 | 1 => [.keep [0, 1, 5, 8]]
 | 2 => [.keep [0, 1, 5, 8, 37]]
 | 3 => [.keep [6, 7]]
 | 4 => [.keep [0, 1, 5, 8, 40]]
 | 5 => [.keep [0, 1, 5, 8, 40, 41]]
 | 6 => [.keep [1, 5, 52]]
 | 7 => [.keep [6, 7]]
 | 8 => [.keep [6, 7]]
 | 9 => [.keep [0, 1, 5, 8, 40, 60]]
 | 10 => [.keep [0, 1, 5, 68]]
 | 11 => [.keep [6, 7]]
 | 12 => [.keep [6, 7]]
 | 13 => [.keep [1, 5, 8, 40, 79]]
 | 14 => [.keep [1, 8, 9]]
 | 15 => [.keep [6, 7]]
 | 16 => [.keep [1, 5, 8, 40, 107]]
 | 17 => [.keep [1, 8, 10]]
 | 18 => [.keep [6, 7]]
 | 19 => [.keep [1, 8, 40, 137]]
 | 20 => [.keep [1, 8, 40, 137]]
 | 21 => [.keep [1, 8, 11]]
 | 22 => [.keep [6, 7]]
 | 23 => [.keep [1, 8, 40, 166]]
 | 24 => [.keep [6, 7]]
 | 25 => [.keep [1, 8, 179]]
 | 26 => [.keep [6, 7]]
 | 27 => [.keep [6, 7]]
 | _ => []
def L127 (columns : (List (TColumn).D)) (kinds : (List Int)) (p : (TPart).D) : Loops := fun id m st_ K => match id with
 | _ => False
@[reducible] def S127_0 (columns : (List (TColumn).D)) (kinds : (List Int)) (p : (TPart).D) (K : AV → Hp → Prop) : Prop := (0 ≤ (0 : Int)) ∧ ((0 : Int) ≤ (maxI (wrap64 ((kinds.length : Int) - (2 : Int))) (0 : Int))) ∧ ((maxI (wrap64 ((kinds.length : Int) - (2 : Int))) (0 : Int)) ≤ (kinds.length : Int)) ∧ ((maxI (wrap64 ((kinds.length : Int) - (2 : Int))) (0 : Int)) = (maxI (wrap64 ((kinds.length : Int) - (2 : Int))) (0 : Int))) ∧ ((0 : Int) = 0) ∧ (((maxI (wrap64 ((kinds.length : Int) - (2 : Int))) (0 : Int)).toNat + [(1 : Int)].length) * 8 ≤ lim) ∧ K (.tup [.own 0 none, .data Ty.bool false]) [(0, .arr false TInt (kinds.take (maxI (wrap64 ((kinds.length : Int) - (2 : Int))) (0 : Int)).toNat ++ [(1 : Int)]))]
@[reducible] def S127_1 (columns : (List (TColumn).D)) (kinds : (List Int)) (p : (TPart).D) (K : AV → Hp → Prop) : Prop := (0 ≤ (0 : Int)) ∧ ((0 : Int) ≤ (maxI (wrap64 ((kinds.length : Int) - (2 : Int))) (0 : Int))) ∧ ((maxI (wrap64 ((kinds.length : Int) - (2 : Int))) (0 : Int)) ≤ (kinds.length : Int)) ∧ ((maxI (wrap64 ((kinds.length : Int) - (2 : Int))) (0 : Int)) = (maxI (wrap64 ((kinds.length : Int) - (2 : Int))) (0 : Int))) ∧ ((0 : Int) = 0) ∧ (((maxI (wrap64 ((kinds.length : Int) - (2 : Int))) (0 : Int)).toNat + [(3 : Int)].length) * 8 ≤ lim) ∧ K (.tup [.own 0 none, .data Ty.bool false]) [(0, .arr false TInt (kinds.take (maxI (wrap64 ((kinds.length : Int) - (2 : Int))) (0 : Int)).toNat ++ [(3 : Int)]))]
@[reducible] def S127_2 (columns : (List (TColumn).D)) (kinds : (List Int)) (p : (TPart).D) (K : AV → Hp → Prop) : Prop := (S127_1 columns kinds p K)
@[reducible] def S127_3 (columns : (List (TColumn).D)) (kinds : (List Int)) (p : (TPart).D) (K : AV → Hp → Prop) : Prop := cond ((decide ((1 : Int) < (kinds.length : Int))) == true) ((0 ≤ wrap64 ((kinds.length : Int) - (1 : Int))) ∧ (wrap64 ((kinds.length : Int) - (1 : Int)) < (kinds.length : Int)) ∧ cond ((decide ((nth (t := TInt) kinds (wrap64 ((kinds.length : Int) - (1 : Int)))) = (3 : Int))) == true) ((0 ≤ wrap64 ((kinds.length : Int) - (2 : Int))) ∧ (wrap64 ((kinds.length : Int) - (2 : Int)) < (kinds.length : Int)) ∧ (0 ≤ (0 : Int)) ∧ ((0 : Int) ≤ (maxI (wrap64 ((kinds.length : Int) - (2 : Int))) (0 : Int))) ∧ ((maxI (wrap64 ((kinds.length : Int) - (2 : Int))) (0 : Int)) ≤ (kinds.length : Int)) ∧ ((maxI (wrap64 ((kinds.length : Int) - (2 : Int))) (0 : Int)) = (maxI (wrap64 ((kinds.length : Int) - (2 : Int))) (0 : Int))) ∧ ((0 : Int) = 0) ∧ (((maxI (wrap64 ((kinds.length : Int) - (2 : Int))) (0 : Int)).toNat + [(3 : Int)].length) * 8 ≤ lim) ∧ K (.tup [.own 0 none, .data Ty.bool (decide ((nth (t := TInt) kinds (wrap64 ((kinds.length : Int) - (2 : Int)))) = (3 : Int)))]) [(0, .arr false TInt (kinds.take (maxI (wrap64 ((kinds.length : Int) - (2 : Int))) (0 : Int)).toNat ++ [(3 : Int)]))]) ((S127_2 columns kinds p K))) ((S127_2 columns kinds p K))
@[reducible] def S127_4 (columns : (List (TColumn).D)) (kinds : (List Int)) (p : (TPart).D) (K : AV → Hp → Prop) : Prop := cond (decide (p.1 = (7 : Int))) (cond ((decide ((0 : Int) < (kinds.length : Int))) == true) ((0 ≤ wrap64 ((kinds.length : Int) - (1 : Int))) ∧ (wrap64 ((kinds.length : Int) - (1 : Int)) < (kinds.length : Int)) ∧ K (.tup [.own 0 none, .data Ty.bool (decide ((nth (t := TInt) kinds (wrap64 ((kinds.length : Int) - (1 : Int)))) = (3 : Int)))]) [(0, .arr false TInt kinds)]) (K (.tup [.own 0 none, .data Ty.bool false]) [(0, .arr false TInt kinds)])) (cond (decide (p.1 = (8 : Int))) ((0 ≤ (0 : Int)) ∧ ((0 : Int) ≤ (maxI (wrap64 ((kinds.length : Int) - (1 : Int))) (0 : Int))) ∧ ((maxI (wrap64 ((kinds.length : Int) - (1 : Int))) (0 : Int)) ≤ (kinds.length : Int)) ∧ ((maxI (wrap64 ((kinds.length : Int) - (1 : Int))) (0 : Int)) = (maxI (wrap64 ((kinds.length : Int) - (1 : Int))) (0 : Int))) ∧ ((0 : Int) = 0) ∧ (((maxI (wrap64 ((kinds.length : Int) - (1 : Int))) (0 : Int)).toNat + [(3 : Int)].length) * 8 ≤ lim) ∧ K (.tup [.own 0 none, .data Ty.bool (decide ((0 : Int) < (kinds.length : Int)))]) [(0, .arr false TInt (kinds.take (maxI (wrap64 ((kinds.length : Int) - (1 : Int))) (0 : Int)).toNat ++ [(3 : Int)]))]) (K (.tup [.own 0 none, .data Ty.bool false]) [(0, .arr false TInt kinds)]))
@[reducible] def S127_5 (columns : (List (TColumn).D)) (kinds : (List Int)) (p : (TPart).D) (K : AV → Hp → Prop) : Prop := cond (decide (p.1 = (1 : Int))) ((Sm TValue p.2.2.1) ∧ cond ((!(M.valueOk p.2.2.1)) == false) (cond (decide (p.2.2.1.1 = (0 : Int))) (K (.tup [.own 0 none, .data Ty.bool false]) [(0, .arr false TInt kinds)]) (((kinds.length + [p.2.2.1.1].length) * 8 ≤ lim) ∧ K (.tup [.own 0 none, .data Ty.bool true]) [(0, .arr false TInt (kinds ++ [p.2.2.1.1]))])) (K (.tup [.own 0 none, .data Ty.bool false]) [(0, .arr false TInt kinds)])) (cond (decide (p.1 = (2 : Int))) (cond (!(M.inR p.2.1 (0 : Int) (wrap64 ((columns.length : Int) - (1 : Int))))) (K (.tup [.own 0 none, .data Ty.bool false]) [(0, .arr false TInt kinds)]) ((0 ≤ p.2.1) ∧ (p.2.1 < (columns.length : Int)) ∧ ((kinds.length + [(nth (t := TColumn) columns p.2.1).1].length) * 8 ≤ lim) ∧ K (.tup [.own 0 none, .data Ty.bool true]) [(0, .arr false TInt (kinds ++ [(nth (t := TColumn) columns p.2.1).1]))])) (cond (decide (p.1 = (3 : Int))) (cond ((decide ((1 : Int) < (kinds.length : Int))) == true) ((0 ≤ wrap64 ((kinds.length : Int) - (1 : Int))) ∧ (wrap64 ((kinds.length : Int) - (1 : Int)) < (kinds.length : Int)) ∧ cond ((decide ((nth (t := TInt) kinds (wrap64 ((kinds.length : Int) - (1 : Int)))) = (1 : Int))) == true) ((0 ≤ wrap64 ((kinds.length : Int) - (2 : Int))) ∧ (wrap64 ((kinds.length : Int) - (2 : Int)) < (kinds.length : Int)) ∧ (0 ≤ (0 : Int)) ∧ ((0 : Int) ≤ (maxI (wrap64 ((kinds.length : Int) - (2 : Int))) (0 : Int))) ∧ ((maxI (wrap64 ((kinds.length : Int) - (2 : Int))) (0 : Int)) ≤ (kinds.length : Int)) ∧ ((maxI (wrap64 ((kinds.length : Int) - (2 : Int))) (0 : Int)) = (maxI (wrap64 ((kinds.length : Int) - (2 : Int))) (0 : Int))) ∧ ((0 : Int) = 0) ∧ (((maxI (wrap64 ((kinds.length : Int) - (2 : Int))) (0 : Int)).toNat + [(1 : Int)].length) * 8 ≤ lim) ∧ K (.tup [.own 0 none, .data Ty.bool (decide ((nth (t := TInt) kinds (wrap64 ((kinds.length : Int) - (2 : Int)))) = (1 : Int)))]) [(0, .arr false TInt (kinds.take (maxI (wrap64 ((kinds.length : Int) - (2 : Int))) (0 : Int)).toNat ++ [(1 : Int)]))]) ((S127_0 columns kinds p K))) ((S127_0 columns kinds p K))) (cond (decide (p.1 = (4 : Int))) (cond ((decide ((1 : Int) < (kinds.length : Int))) == true) ((0 ≤ wrap64 ((kinds.length : Int) - (1 : Int))) ∧ (wrap64 ((kinds.length : Int) - (1 : Int)) < (kinds.length : Int)) ∧ (0 ≤ wrap64 ((kinds.length : Int) - (2 : Int))) ∧ (wrap64 ((kinds.length : Int) - (2 : Int)) < (kinds.length : Int)) ∧ cond ((decide ((nth (t := TInt) kinds (wrap64 ((kinds.length : Int) - (1 : Int)))) = (nth (t := TInt) kinds (wrap64 ((kinds.length : Int) - (2 : Int)))))) == true) ((0 ≤ (0 : Int)) ∧ ((0 : Int) ≤ (maxI (wrap64 ((kinds.length : Int) - (2 : Int))) (0 : Int))) ∧ ((maxI (wrap64 ((kinds.length : Int) - (2 : Int))) (0 : Int)) ≤ (kinds.length : Int)) ∧ ((maxI (wrap64 ((kinds.length : Int) - (2 : Int))) (0 : Int)) = (maxI (wrap64 ((kinds.length : Int) - (2 : Int))) (0 : Int))) ∧ ((0 : Int) = 0) ∧ (((maxI (wrap64 ((kinds.length : Int) - (2 : Int))) (0 : Int)).toNat + [(3 : Int)].length) * 8 ≤ lim) ∧ K (.tup [.own 0 none, .data Ty.bool (M.inR p.2.1 (1 : Int) (4 : Int))]) [(0, .arr false TInt (kinds.take (maxI (wrap64 ((kinds.length : Int) - (2 : Int))) (0 : Int)).toNat ++ [(3 : Int)]))]) ((S127_2 columns kinds p K))) ((S127_2 columns kinds p K))) (cond (decide (p.1 = (5 : Int))) (cond (decide (p.1 = (5 : Int))) ((S127_3 columns kinds p K)) ((S127_4 columns kinds p K))) (cond (decide (p.1 = (6 : Int))) ((S127_3 columns kinds p K)) ((S127_4 columns kinds p K)))))))
@[reducible] def S127_6 (columns : (List (TColumn).D)) (kinds : (List Int)) (p : (TPart).D) (K : AV → Hp → Prop) : Prop := cond ((!decide (p.1 = (2 : Int))) == true) (cond ((!decide (p.1 = (4 : Int))) == true) (cond (!decide (p.2.1 = (0 : Int))) (K (.tup [.own 0 none, .data Ty.bool false]) [(0, .arr false TInt kinds)]) ((S127_5 columns kinds p K))) ((S127_5 columns kinds p K))) ((S127_5 columns kinds p K))
theorem vc127 (columns : (List (TColumn).D)) (kinds : (List Int)) (p : (TPart).D) (K : AV → Hp → Prop) : awp C127 (L127 columns kinds p) ann127 (bodyOf f127) ⟨argEnv 0 [.data (Ty.sl TColumn) columns, .own 0 none, .data TPart p], [(0, .arr false TInt kinds)]⟩ (outK tab true f127.results.toList (hasBox [(0, .arr false TInt kinds)]) (resK .raw K)) =
 (cond ((!decide (p.1 = (1 : Int))) == true) (cond ((!(Ty.beq TValue p.2.2.1 ((0 : Int), ((0 : Int), ((⟨#[]⟩ : ByteArray), ()))))) == false) ((S127_6 columns kinds p K)) (K (.tup [.own 0 none, .data Ty.bool false]) [(0, .arr false TInt kinds)])) ((S127_6 columns kinds p K))) := by kernel_rfl
theorem con127_ok : ConOk P 127 c127 := by
 refine con_okR (fn := f127) (code := bodyOf f127) (tab_ok tab_check cmp_check) consOk127 mixed func127 rfl rfl fun args hp K h0 => ?_
 unfold c127 at h0
 dsimp only at h0
 obtain ⟨kinds, rfl, h00⟩ := hpN_elim (n := 0) (d := false) (t := TInt) h0
 obtain ⟨a0, a1, a2, rfl, _, h1⟩ := args3_elim h00
 obtain ⟨columns, rfl, h2⟩ := withD_elim h1
 obtain ⟨rfl, h3⟩ := withO_elim h2
 obtain ⟨p, rfl, h4⟩ := withD_elim h3
 obtain ⟨h_columns, h_kinds, h_p, p0, hK⟩ := h4
 have h : ok (F.spec_l4Step columns kinds p) (fun r => K (.tup [.own 0 none, .data Ty.bool r.2]) [(0, .arr false TInt r.1)]) := ok_of_eq (F.spec_l4Step_eq columns kinds p h_columns h_kinds h_p p0) (hK _ rfl)
 refine ⟨⟨show (3 : Nat) ≤ 191 by decide, show (3 : Nat) ≤ 1000000 by decide⟩, ann127, (L127 columns kinds p), .raw, (no_loops (by kernel_rfl)), ?_⟩
 ·rw [vc127 columns kinds p K]
  exact (ok_cond h (fun b_1 h => (ok_cond h (fun b_2 h => (ok_cond h (fun b_3 h => (ok_cond h (fun b_4 h => (ok_cond h (fun b_5 h => (ok_ret h :)) (fun b_5 h => (cond_f (bnt (bet b_1)) (cond_f (bnt (bet b_3)) (ok_cond h (fun b_11 h => (ok_cond h (fun b_12 h => ⟨(ok_guard h).1, have h := (ok_guard h).2; ⟨(ok_guard h).1, have h := (ok_guard h).2; (ok_cond h (fun b_15 h => ⟨(ok_guard h).1, have h := (ok_guard h).2; ⟨(ok_guard h).1, have h := (ok_guard h).2; ⟨(Int.natCast_nonneg 0), ⟨(ok_guard h).1, have h := (ok_guard h).2; ⟨(ok_guard h).1, have h := (ok_guard h).2; ⟨rfl, ⟨rfl, ⟨(ok_guard h).1, have h := (ok_guard h).2; (ok_ret h :)⟩⟩⟩⟩⟩⟩⟩⟩) (fun b_15 h => ⟨(Int.natCast_nonneg 0), ⟨(ok_guard h).1, have h := (ok_guard h).2; ⟨(ok_guard h).1, have h := (ok_guard h).2; ⟨rfl, ⟨rfl, ⟨(ok_guard h).1, have h := (ok_guard h).2; (ok_ret h :)⟩⟩⟩⟩⟩⟩))⟩⟩) (fun b_12 h => ⟨(Int.natCast_nonneg 0), ⟨(ok_guard h).1, have h := (ok_guard h).2; ⟨(ok_guard h).1, have h := (ok_guard h).2; ⟨rfl, ⟨rfl, ⟨(ok_guard h).1, have h := (ok_guard h).2; (ok_ret h :)⟩⟩⟩⟩⟩⟩))) (fun b_11 h => (cond_f (bnt (bet b_4)) (ok_cond h (fun b_43 h => (cond_t b_43 (ok_cond h (fun b_45 h => ⟨(ok_guard h).1, have h := (ok_guard h).2; ⟨(ok_guard h).1, have h := (ok_guard h).2; (ok_cond h (fun b_48 h => ⟨(ok_guard h).1, have h := (ok_guard h).2; ⟨(ok_guard h).1, have h := (ok_guard h).2; ⟨(Int.natCast_nonneg 0), ⟨(ok_guard h).1, have h := (ok_guard h).2; ⟨(ok_guard h).1, have h := (ok_guard h).2; ⟨rfl, ⟨rfl, ⟨(ok_guard h).1, have h := (ok_guard h).2; (ok_ret h :)⟩⟩⟩⟩⟩⟩⟩⟩) (fun b_48 h => ⟨(Int.natCast_nonneg 0), ⟨(ok_guard h).1, have h := (ok_guard h).2; ⟨(ok_guard h).1, have h := (ok_guard h).2; ⟨rfl, ⟨rfl, ⟨(ok_guard h).1, have h := (ok_guard h).2; (ok_ret h :)⟩⟩⟩⟩⟩⟩))⟩⟩) (fun b_45 h => ⟨(Int.natCast_nonneg 0), ⟨(ok_guard h).1, have h := (ok_guard h).2; ⟨(ok_guard h).1, have h := (ok_guard h).2; ⟨rfl, ⟨rfl, ⟨(ok_guard h).1, have h := (ok_guard h).2; (ok_ret h :)⟩⟩⟩⟩⟩⟩)))) (fun b_43 h => (ok_cond h (fun b_68 h => (ok_cond h (fun b_69 h => ⟨(ok_guard h).1, have h := (ok_guard h).2; ⟨(ok_guard h).1, have h := (ok_guard h).2; (ok_cond h (fun b_72 h => ⟨(ok_guard h).1, have h := (ok_guard h).2; ⟨(ok_guard h).1, have h := (ok_guard h).2; ⟨(Int.natCast_nonneg 0), ⟨(ok_guard h).1, have h := (ok_guard h).2; ⟨(ok_guard h).1, have h := (ok_guard h).2; ⟨rfl, ⟨rfl, ⟨(ok_guard h).1, have h := (ok_guard h).2; (ok_ret h :)⟩⟩⟩⟩⟩⟩⟩⟩) (fun b_72 h => ⟨(Int.natCast_nonneg 0), ⟨(ok_guard h).1, have h := (ok_guard h).2; ⟨(ok_guard h).1, have h := (ok_guard h).2; ⟨rfl, ⟨rfl, ⟨(ok_guard h).1, have h := (ok_guard h).2; (ok_ret h :)⟩⟩⟩⟩⟩⟩))⟩⟩) (fun b_69 h => ⟨(Int.natCast_nonneg 0), ⟨(ok_guard h).1, have h := (ok_guard h).2; ⟨(ok_guard h).1, have h := (ok_guard h).2; ⟨rfl, ⟨rfl, ⟨(ok_guard h).1, have h := (ok_guard h).2; (ok_ret h :)⟩⟩⟩⟩⟩⟩))) (fun b_68 h => (ok_cond h (fun b_84 h => (ok_cond h (fun b_85 h => ⟨(ok_guard h).1, have h := (ok_guard h).2; ⟨(ok_guard h).1, have h := (ok_guard h).2; (ok_ret h :)⟩⟩) (fun b_85 h => (ok_ret h :)))) (fun b_84 h => (ok_cond h (fun b_88 h => ⟨(Int.natCast_nonneg 0), ⟨(ok_guard h).1, have h := (ok_guard h).2; ⟨(ok_guard h).1, have h := (ok_guard h).2; ⟨rfl, ⟨rfl, ⟨(ok_guard h).1, have h := (ok_guard h).2; (ok_ret h :)⟩⟩⟩⟩⟩⟩) (fun b_88 h => (ok_ret h :))))))))))))))))) (fun b_4 h => (cond_f (bnt (bet b_1)) (cond_f (bnt (bet b_3)) (cond_f (dec_ne (bnf (bef b_4)) (by decide)) (cond_t (bnf (bef b_4)) (ok_cond h (fun b_114 h => ⟨(ok_guard h).1, have h := (ok_guard h).2; ⟨(ok_guard h).1, have h := (ok_guard h).2; ⟨(ok_guard h).1, have h := (ok_guard h).2; ⟨(ok_guard h).1, have h := (ok_guard h).2; (ok_cond h (fun b_119 h => ⟨(Int.natCast_nonneg 0), ⟨(ok_guard h).1, have h := (ok_guard h).2; ⟨(ok_guard h).1, have h := (ok_guard h).2; ⟨rfl, ⟨rfl, ⟨(ok_guard h).1, have h := (ok_guard h).2; (ok_ret h :)⟩⟩⟩⟩⟩⟩) (fun b_119 h => ⟨(Int.natCast_nonneg 0), ⟨(ok_guard h).1, have h := (ok_guard h).2; ⟨(ok_guard h).1, have h := (ok_guard h).2; ⟨rfl, ⟨rfl, ⟨(ok_guard h).1, have h := (ok_guard h).2; (ok_ret h :)⟩⟩⟩⟩⟩⟩))⟩⟩⟩⟩) (fun b_114 h => ⟨(Int.natCast_nonneg 0), ⟨(ok_guard h).1, have h := (ok_guard h).2; ⟨(ok_guard h).1, have h := (ok_guard h).2; ⟨rfl, ⟨rfl, ⟨(ok_guard h).1, have h := (ok_guard h).2; (ok_ret h :)⟩⟩⟩⟩⟩⟩))))))))) (fun b_3 h => (cond_f (bnt (bet b_1)) (cond_t (bnf (bef b_3)) (ok_cond h (fun b_182 h => (ok_ret h :)) (fun b_182 h => ⟨(inR_lo (bnf b_182)), ⟨(inR_hi (bnf b_182)), ⟨(sm_lim2 h_kinds (sm_one trivial) rfl), (ok_ret h :)⟩⟩⟩))))))) (fun b_2 h => (ok_ret h :)))) (fun b_1 h => (cond_t (uet (unt (dec_ne (bnf (bef b_1)) (by decide)))) (cond_t (uet (unt (dec_ne (bnf (bef b_1)) (by decide)))) (ok_cond h (fun b_266 h => (ok_ret h :)) (fun b_266 h => (cond_t (bnf (bef b_1)) ⟨h_p.2.2.1, (ok_cond h (fun b_268 h => (ok_cond h (fun b_269 h => (ok_ret h :)) (fun b_269 h => ⟨(sm_lim2 h_kinds (sm_one trivial) rfl), (ok_ret h :)⟩))) (fun b_268 h => (ok_ret h :)))⟩)))))))
def c95 : Con := ⟨[.dat (Ty.sl TColumn), .dat (Ty.sl TPart)], fun args hp K => args2 (fun a0 a1 => withD (Ty.sl TColumn) a0 fun columns => withD (Ty.sl TPart) a1 fun e => (Sm (Ty.sl TColumn) columns) ∧ (Sm (Ty.sl TPart) e) ∧ K (.data TInt (M.exprKind columns e)) []) args hp, .plain⟩
def cons95 : Cons := [(126, c126), (127, c127)]
@[reducible] def C95 : Ctx := ⟨tab, fun t => memN t cmps, cons95, 46, [], 0, false⟩
theorem consOk95 : ConsOk P C95 := by
 refine consOk_cons (enter_ok (fn := f126) func126 (by kernel_rfl) rfl) con126_ok ?_
 refine consOk_cons (enter_ok (fn := f127) func127 (by kernel_rfl) rfl) con127_ok ?_
 exact consOk_nil
def ann95 : Nat → List Dir
 | 0 => [.keep [0, 1]]
 | 1 => [.keep [0, 1, 15]]
 | 2 => [.keep [4]]
 | 3 => [.keep [0, 1, 5]]
 | 4 => [.keep [0, 1, 5, 6]]
 | 5 => [.keep [0, 1, 5, 6, 7]]
 | 6 => [.keep [0, 1, 5, 6, 7, 23]]
 | 7 => [.keep [0, 1, 5, 6, 7]]
 | 8 => [.keep [0, 1, 5, 6, 7]]
 | 9 => [.keep [5, 42]]
 | 10 => [.keep [4]]
 | 11 => [.keep [4]]
 | 100000 => [.keep [5, 6]]
 | _ => []
@[reducible] def LP95_0 (columns : (List (TColumn).D)) (e : (List (TPart).D)) (m : Nat) (st_ : St) (K : X → St → Prop) : Prop := (True) ∧ LoopW (fun v0 : Bool × Int × (List Int) => (⟨[(0, .data (Ty.sl TColumn) columns), (1, .data (Ty.sl TPart) e), (5, .own 16 none), (6, .data Ty.bool v0.1), (7, .data TInt v0.2.1)], [(16, .arr false TInt v0.2.2)]⟩ : St)) (F.spec_ExprKind_l0 columns e) (fun v0 : Bool × Int × (List Int) => True) ((fun e0 : Bool × (List Int) => True → K (.exit 0) (⟨[(5, .own 16 none), (6, .data Ty.bool e0.1)], [(16, .arr false TInt e0.2)]⟩ : St))) m st_
def L95 (columns : (List (TColumn).D)) (e : (List (TPart).D)) : Loops := fun id m st_ K => match id with
 | 0 => LP95_0 columns e m st_ K
 | _ => False
theorem vc95 (columns : (List (TColumn).D)) (e : (List (TPart).D)) (K : AV → Hp → Prop) : awp C95 (L95 columns e) ann95 (bodyOf f95) ⟨argEnv 0 [.data (Ty.sl TColumn) columns, .data (Ty.sl TPart) e], []⟩ (outK tab false f95.results.toList (hasBox []) (resK (.dat TInt) K)) =
 ((Sm (Ty.sl TColumn) columns) ∧ cond ((!(M.columnsOk columns)) == false) (cond (decide ((12 : Int) < (e.length : Int))) (K (.data TInt (-1 : Int)) []) ((∃ m_, (True) ∧ LoopW (fun v0 : Bool × Int × (List Int) => (⟨[(0, .data (Ty.sl TColumn) columns), (1, .data (Ty.sl TPart) e), (5, .own 16 none), (6, .data Ty.bool v0.1), (7, .data TInt v0.2.1)], [(16, .arr false TInt v0.2.2)]⟩ : St)) (F.spec_ExprKind_l0 columns e) (fun v0 : Bool × Int × (List Int) => True) ((fun e0 : Bool × (List Int) => True → cond ((!e0.1) == false) (cond (!decide ((e0.2.length : Int) = (1 : Int))) (K (.data TInt (-1 : Int)) []) ((0 ≤ (0 : Int)) ∧ ((0 : Int) < (e0.2.length : Int)) ∧ K (.data TInt (nth (t := TInt) e0.2 (0 : Int))) [])) (K (.data TInt (-1 : Int)) []))) m_ (⟨[(0, .data (Ty.sl TColumn) columns), (1, .data (Ty.sl TPart) e), (5, .own 16 none), (6, .data Ty.bool true), (7, .data TInt (0 : Int))], [(16, .arr false TInt [])]⟩ : St)))) (K (.data TInt (-1 : Int)) [])) := by kernel_rfl
theorem lvc95_0 (columns : (List (TColumn).D)) (e : (List (TPart).D))  (v0 : Bool × Int × (List Int)) (m : Nat) (K : X → St → Prop) : awp C95 (L95 columns e) ann95 (loopAt (bodyOf f95) 0) (⟨[(0, .data (Ty.sl TColumn) columns), (1, .data (Ty.sl TPart) e), (5, .own 16 none), (6, .data Ty.bool v0.1), (7, .data TInt v0.2.1)], [(16, .arr false TInt v0.2.2)]⟩ : St) (thenW (fun s' => ∃ m', m' < m ∧ (L95 columns e) 0 m' s' K) (exitN 0 (ann95 (behind 0)) K)) =
 (cond ((decide (v0.2.1 < (e.length : Int))) == true) (cond v0.1 ((0 ≤ v0.2.1) ∧ (v0.2.1 < (e.length : Int)) ∧ (Sm (Ty.sl TColumn) columns) ∧ (Sm (Ty.sl TInt) v0.2.2) ∧ (Sm TPart (nth (t := TPart) e v0.2.1)) ∧ (v0.2.2.length ≤ 1000) ∧ (∀ r_8_6 : (List Int) × Bool, r_8_6 = (M.l4Step columns v0.2.2 (nth (t := TPart) e v0.2.1)) → (∃ m_, m_ < m ∧ (L95 columns e) 0 m_ (⟨[(0, .data (Ty.sl TColumn) columns), (1, .data (Ty.sl TPart) e), (5, .own 16 none), (6, .data Ty.bool r_8_6.2), (7, .data TInt (wrap64 (v0.2.1 + (1 : Int))))], [(16, .arr false TInt r_8_6.1)]⟩ : St) K))) (K (.exit 0) (⟨[(5, .own 16 none), (6, .data Ty.bool v0.1)], [(16, .arr false TInt v0.2.2)]⟩ : St))) (K (.exit 0) (⟨[(5, .own 16 none), (6, .data Ty.bool v0.1)], [(16, .arr false TInt v0.2.2)]⟩ : St))) := by kernel_rfl
theorem con95_ok : ConOk P 95 c95 := by
 refine con_okR (fn := f95) (code := bodyOf f95) (tab_ok tab_check cmp_check) consOk95 mixed func95 rfl rfl fun args hp K h0 => ?_
 obtain ⟨a0, a1, rfl, rfl, h1⟩ := args2_elim h0
 obtain ⟨columns, rfl, h2⟩ := withD_elim h1
 obtain ⟨e, rfl, h3⟩ := withD_elim h2
 obtain ⟨h_columns, h_e, hK⟩ := h3
 have h : ok (F.spec_ExprKind columns e) (fun r => K (.data TInt r) []) := ok_of_eq (F.spec_ExprKind_eq columns e h_columns h_e) hK
 refine ⟨⟨show (2 : Nat) ≤ 46 by decide, show (2 : Nat) ≤ 1000000 by decide⟩, ann95, (L95 columns e), (.dat TInt), (loopsN1 (i0 := 0) (by kernel_rfl) ?_), ?_⟩
 ·clear h
  intro m_ s_ K_ h
  obtain ⟨hc0, v0, rfl, hv0, h⟩ := (show LP95_0 columns e m_ s_ K_ from h)
  rw [lvc95_0 columns e v0 _ K_]
  exact (loopW_step h (fun m1 hm0 h => (ok_cond h (fun b_11 h => (ok_cond h (fun b_12 h => ⟨(ok_guard h).1, have h := (ok_guard h).2; ⟨(ok_guard h).1, have h := (ok_guard h).2; ⟨h_columns, ⟨(ok_guard h).1, have h := (ok_guard h).2; ⟨(sm_nth h_e v0.2.1), ⟨(ok_guard h).1, have h := (ok_guard h).2; (fun r_8_6 e_r_8_6 => have h := ok_let h r_8_6 e_r_8_6; (loopW_next (fun m hm => (show LP95_0 columns e m _ _ from ⟨hc0, hm⟩)) hm0 (r_8_6.2, wrap64 (v0.2.1 + (1 : Int)), r_8_6.1) rfl trivial (ok_ret h :)))⟩⟩⟩⟩⟩⟩) (fun b_12 h => ((ok_ret h :) trivial)))) (fun b_11 h => ((ok_ret h :) trivial)))))
 ·rw [vc95 columns e K]
  exact ⟨h_columns, (ok_cond h (fun b_1 h => (ok_cond h (fun b_2 h => (ok_ret h :)) (fun b_2 h => (loopW_start (fun m hm => ⟨trivial, hm⟩) (true, (0 : Int), []) rfl trivial (ok_bind h (fun e0 h hv0 => (ok_cond h (fun b_17 h => (ok_cond h (fun b_18 h => (ok_ret h :)) (fun b_18 h => ⟨(Int.natCast_nonneg 0), ⟨(ok_guard h).1, have h := (ok_guard h).2; (ok_ret h :)⟩⟩))) (fun b_17 h => (ok_ret h :))))))))) (fun b_1 h => (ok_ret h :)))⟩
def c140 : Con := ⟨[.dat TStep], fun args hp K => args1 (fun a0 => withD TStep a0 fun s => (Sm TStep s) ∧ K (.data Ty.bool (M.fieldsOk s)) []) args hp, .plain⟩
def cons140 : Cons := []
@[reducible] def C140 : Ctx := ⟨tab, fun t => memN t cmps, cons140, 68, [], 0, false⟩
theorem consOk140 : ConsOk P C140 := by
 exact consOk_nil
def ann140 : Nat → List Dir
 | 0 => [.fixRow 1 TStep, .keep [1]]
 | 1 => [.keep [1, 3]]
 | 2 => [.keep [1, 3, 4]]
 | 3 => [.keep [1, 3, 4, 5]]
 | 4 => [.keep [2]]
 | _ => []
def L140 (s : (TStep).D) : Loops := fun id m st_ K => match id with
 | _ => False
@[reducible] def S140_0 (s : (TStep).D) (K : AV → Hp → Prop) : Prop := cond ((decide (s.1 = (3 : Int))) == false) (K (.data Ty.bool (decide ((s.2.2.2.2.2.1.length : Int) = (0 : Int)))) []) (K (.data Ty.bool true) [])
@[reducible] def S140_1 (s : (TStep).D) (K : AV → Hp → Prop) : Prop := cond ((decide (s.1 = (4 : Int))) == false) (cond ((decide ((s.2.2.2.2.1.length : Int) = (0 : Int))) == true) ((S140_0 s K)) (K (.data Ty.bool false) [])) ((S140_0 s K))
@[reducible] def S140_2 (s : (TStep).D) (K : AV → Hp → Prop) : Prop := cond ((decide (s.1 = (1 : Int))) == false) (cond ((decide (s.2.2.2.1 = (0 : Int))) == true) ((S140_1 s K)) (K (.data Ty.bool false) [])) ((S140_1 s K))
@[reducible] def S140_3 (s : (TStep).D) (K : AV → Hp → Prop) : Prop := cond ((decide (s.1 = (5 : Int))) == false) (cond ((decide (s.2.2.1 = (0 : Int))) == true) ((S140_2 s K)) (K (.data Ty.bool false) [])) ((S140_2 s K))
@[reducible] def S140_4 (s : (TStep).D) (K : AV → Hp → Prop) : Prop := cond ((decide (s.1 = (1 : Int))) == false) (cond ((decide (s.2.2.2.1 = (0 : Int))) == true) ((S140_0 s K)) (K (.data Ty.bool false) [])) ((S140_0 s K))
@[reducible] def S140_5 (s : (TStep).D) (K : AV → Hp → Prop) : Prop := cond ((decide (s.1 = (5 : Int))) == false) (cond ((decide (s.2.2.1 = (0 : Int))) == true) ((S140_4 s K)) (K (.data Ty.bool false) [])) ((S140_4 s K))
theorem vc140 (s : (TStep).D) (K : AV → Hp → Prop) : awp C140 (L140 s) ann140 (bodyOf f140) ⟨argEnv 0 [.data TStep s], []⟩ (outK tab false f140.results.toList (hasBox []) (resK (.dat Ty.bool) K)) =
 (cond ((decide (s.1 = (4 : Int))) == false) (cond ((decide (s.1 = (2 : Int))) == false) (cond ((!(decide (s.1 = (1 : Int)))) == false) (cond ((decide (s.2.1 = (0 : Int))) == true) ((S140_3 s K)) (K (.data Ty.bool false) [])) ((S140_3 s K))) (cond ((!(decide (s.1 = (1 : Int)))) == false) (cond ((decide (s.2.1 = (0 : Int))) == true) ((S140_5 s K)) (K (.data Ty.bool false) [])) ((S140_5 s K)))) (cond ((decide (s.1 = (2 : Int))) == false) (cond ((!(decide (s.1 = (1 : Int)))) == false) (cond ((decide (s.2.1 = (0 : Int))) == true) ((S140_2 s K)) (K (.data Ty.bool false) [])) ((S140_2 s K))) (cond ((!(decide (s.1 = (1 : Int)))) == false) (cond ((decide (s.2.1 = (0 : Int))) == true) ((S140_4 s K)) (K (.data Ty.bool false) [])) ((S140_4 s K))))) := by kernel_rfl
theorem con140_ok : ConOk P 140 c140 := by
 refine con_okR (fn := f140) (code := bodyOf f140) (tab_ok tab_check cmp_check) consOk140 mixed func140 rfl rfl fun args hp K h0 => ?_
 obtain ⟨a0, rfl, rfl, h1⟩ := args1_elim h0
 obtain ⟨s, rfl, h2⟩ := withD_elim h1
 obtain ⟨h_s, hK⟩ := h2
 have h : ok (F.spec_l6Fields s) (fun r => K (.data Ty.bool r) []) := ok_of_eq (F.spec_l6Fields_eq s h_s) hK
 refine ⟨⟨show (1 : Nat) ≤ 68 by decide, show (1 : Nat) ≤ 1000000 by decide⟩, ann140, (L140 s), (.dat Ty.bool), (no_loops (by kernel_rfl)), ?_⟩
 ·rw [vc140 s K]
  exact (ok_cond h (fun b_1 h => (ok_cond h (fun b_2 h => (ok_cond h (fun b_3 h => (ok_cond h (fun b_4 h => (cond_t (ugt (dec_ne (bnf (bgt b_3)) (by decide))) (ok_cond h (fun b_6 h => (cond_f (ugf (bnf (bgt b_3))) (cond_t (ugt (bgt b_1)) (ok_cond h (fun b_14 h => (cond_t (ugt (dec_ne (bnf (bgt b_3)) (by decide))) (ok_ret h :))) (fun b_14 h => (ok_ret h :)))))) (fun b_6 h => (ok_ret h :))))) (fun b_4 h => (ok_ret h :)))) (fun b_3 h => (ok_cond h (fun b_27 h => (ok_cond h (fun b_28 h => (cond_t (ugt (bnt (bgf b_3))) (ok_cond h (fun b_30 h => (cond_t (ugt (bgt b_1)) (ok_cond h (fun b_32 h => (ok_cond h (fun b_33 h => (ok_ret h :)) (fun b_33 h => (ok_ret h :)))) (fun b_32 h => (ok_ret h :))))) (fun b_30 h => (ok_ret h :))))) (fun b_28 h => (ok_ret h :)))) (fun b_27 h => (cond_t (ugt (bnt (bgf b_3))) (ok_cond h (fun b_40 h => (cond_t (ugt (bgt b_1)) (ok_cond h (fun b_42 h => (cond_t (ugt (dec_ne (bgf b_27) (by decide))) (ok_ret h :))) (fun b_42 h => (ok_ret h :))))) (fun b_40 h => (ok_ret h :))))))))) (fun b_2 h => (cond_f (ugf (unt (dec_ne (bgf b_2) (by decide)))) (cond_t (ugt (dec_ne (bgf b_2) (by decide))) (ok_cond h (fun b_62 h => (cond_t (ugt (dec_ne (bgf b_2) (by decide))) (ok_cond h (fun b_64 h => (cond_t (ugt (dec_ne (bgf b_2) (by decide))) (ok_ret h :))) (fun b_64 h => (ok_ret h :))))) (fun b_62 h => (ok_ret h :)))))))) (fun b_1 h => (cond_t (ugt (dec_ne (bgf b_1) (by decide))) (cond_f (ugf (unt (dec_ne (bgf b_1) (by decide)))) (cond_t (ugt (dec_ne (bgf b_1) (by decide))) (ok_cond h (fun b_85 h => (cond_f (ugf (bgf b_1)) (cond_t (ugt (dec_ne (bgf b_1) (by decide))) (ok_ret h :)))) (fun b_85 h => (ok_ret h :))))))))
def c106 : Con := ⟨[.dat (Ty.sl TTable), .lent (Ty.sl TColumn), .dat TStep], fun args hp K => args3 (fun a0 a1 a2 => withD (Ty.sl TTable) a0 fun tables => withB (Ty.sl TColumn) a1 fun ahead => withD TStep a2 fun s => (Sm (Ty.sl TTable) tables) ∧ (Sm (Ty.sl (Ty.sl TColumn)) ahead) ∧ (Sm TStep s) ∧ (∀ r : (List (TColumn).D) × Bool, r = (M.l6Columns tables ahead s) → K (.tup [.data (Ty.sl TColumn) r.1, .data Ty.bool r.2]) [])) args hp, .plain⟩
def cons106 : Cons := [(62, c62), (95, c95), (140, c140)]
@[reducible] def C106 : Ctx := ⟨tab, fun t => memN t cmps, cons106, 185, [], 0, false⟩
theorem consOk106 : ConsOk P C106 := by
 refine consOk_cons (enter_ok (fn := f62) func62 (by kernel_rfl) rfl) con62_ok ?_
 refine consOk_cons (enter_ok (fn := f95) func95 (by kernel_rfl) rfl) con95_ok ?_
 refine consOk_cons (enter_ok (fn := f140) func140 (by kernel_rfl) rfl) con140_ok ?_
 exact consOk_nil
def ann106 : Nat → List Dir
 | 0 => [.fixRow 5 TStep, .keep [0, 1, 5]]
 | 1 => [.keep [0, 1, 5, 15]]
 | 2 => [.keep [6, 7]]
 | 3 => [.keep [0, 1, 5, 19]]
 | 4 => [.keep [0, 5, 26]]
 | 5 => [.keep [6, 7]]
 | 6 => [.keep [6, 7]]
 | 7 => [.keep [1, 5, 51]]
 | 8 => [.keep [6, 7]]
 | 9 => [.keep [1, 5, 8]]
 | 10 => [.keep [1, 5, 8, 61]]
 | 11 => [.keep [1, 5, 8, 61, 62]]
 | 12 => [.keep [6, 7]]
 | 13 => [.keep [1, 5, 8, 61, 70]]
 | 14 => [.keep [5, 8, 9]]
 | 15 => [.keep [5, 8, 9, 10]]
 | 16 => [.keep [5, 8, 9, 10, 77]]
 | 17 => [.keep [5, 8, 9, 10]]
 | 18 => [.keep [5, 8, 9, 10, 89]]
 | 19 => [.keep [6, 7]]
 | 20 => [.keep [5, 8, 9, 10]]
 | 21 => [.keep [6, 7]]
 | 22 => [.keep [1, 5, 8, 61, 106]]
 | 23 => [.keep [5, 11]]
 | 24 => [.keep [6, 7]]
 | 25 => [.keep [1, 5, 8, 61, 126]]
 | 26 => [.keep [1, 5, 8, 136]]
 | 27 => [.keep [6, 7]]
 | 28 => [.keep [1, 5, 8, 12]]
 | 29 => [.keep [1, 5, 8, 12, 141]]
 | 30 => [.keep [1, 5, 8, 12]]
 | 31 => [.keep [1, 5, 8, 12, 158]]
 | 32 => [.keep [6, 7]]
 | 33 => [.keep [1, 5, 8, 12]]
 | 34 => [.keep [6, 7]]
 | 35 => [.keep [8, 181]]
 | 36 => [.keep [6, 7]]
 | 37 => [.keep [6, 7]]
 | 100001 => [.keep [9]]
 | 100003 => [.keep [8]]
 | _ => []
@[reducible] def LP106_1 (tables : (List (TTable).D)) (ahead : (List (List (TColumn).D))) (s : (TStep).D) (m : Nat) (st_ : St) (K : X → St → Prop) : Prop := (True) ∧ LoopE (t := TInt) (fun (i1 : Int) (v1 : (List (TColumn).D)) => (⟨[(5, .adr TStep s), (8, .own 53 none), (9, .own 72 none), (10, .data TInt i1)], [(53, .arr false TColumn ([] ++ (nth (t := (Ty.sl TColumn)) ahead s.2.1))), (72, .arr false TColumn v1)]⟩ : St)) s.2.2.2.2.2.1 (F.spec_l6Columns_l1 tables ahead s) (fun v1 : (List (TColumn).D) => True) (outD (fun v1 : (List (TColumn).D) => True → K (.exit 1) (⟨[(9, .own 72 none)], [(72, .arr false TColumn v1)]⟩ : St)) (fun q1 : Unit => K .ret (⟨[(6, .own 90 none), (7, .data Ty.bool false)], [(90, .arr false TColumn [])]⟩ : St))) m st_
@[reducible] def LP106_3 (tables : (List (TTable).D)) (ahead : (List (List (TColumn).D))) (s : (TStep).D) (m : Nat) (st_ : St) (K : X → St → Prop) : Prop := (True) ∧ LoopW (fun v3 : Int × (List (TColumn).D) => (⟨[(1, .brw (Ty.sl TColumn) ahead), (5, .adr TStep s), (8, .own 53 none), (12, .data TInt v3.1)], [(53, .arr false TColumn v3.2)]⟩ : St)) (F.spec_l6Columns_l3 tables ahead s) (fun v3 : Int × (List (TColumn).D) => True) (outD (fun e3 : (List (TColumn).D) => True → K (.exit 3) (⟨[(8, .own 53 none)], [(53, .arr false TColumn e3)]⟩ : St)) (fun q3 : Unit => K .ret (⟨[(6, .own 159 none), (7, .data Ty.bool false)], [(159, .arr false TColumn [])]⟩ : St))) m st_
def L106 (tables : (List (TTable).D)) (ahead : (List (List (TColumn).D))) (s : (TStep).D) : Loops := fun id m st_ K => match id with
 | 1 => LP106_1 tables ahead s m st_ K
 | 3 => LP106_3 tables ahead s m st_ K
 | _ => False
theorem vc106 (tables : (List (TTable).D)) (ahead : (List (List (TColumn).D))) (s : (TStep).D) (K : AV → Hp → Prop) : awp C106 (L106 tables ahead s) ann106 (bodyOf f106) ⟨argEnv 0 [.data (Ty.sl TTable) tables, .brw (Ty.sl TColumn) ahead, .data TStep s], []⟩ (outK tab false f106.results.toList (hasBox []) (resK (.tup [(Ty.sl TColumn), Ty.bool]) K)) =
 ((Sm TStep s) ∧ cond (!(M.fieldsOk s)) (K (.tup [.data (Ty.sl TColumn) [], .data Ty.bool false]) []) (cond (decide (s.1 = (1 : Int))) (cond (!(M.inR s.2.2.2.1 (0 : Int) (wrap64 ((tables.length : Int) - (1 : Int))))) (K (.tup [.data (Ty.sl TColumn) [], .data Ty.bool false]) []) ((0 ≤ s.2.2.2.1) ∧ (s.2.2.2.1 < (tables.length : Int)) ∧ ((([] : List TColumn.D).length + ((nth (t := TTable) tables s.2.2.2.1).1).length) * 16 ≤ lim) ∧ K (.tup [.data (Ty.sl TColumn) ([] ++ (nth (t := TTable) tables s.2.2.2.1).1), .data Ty.bool true]) [])) (cond ((!(M.inR s.2.1 (0 : Int) (wrap64 ((ahead.length : Int) - (1 : Int))))) == false) (cond (!(M.inR s.2.2.1 (0 : Int) (wrap64 ((ahead.length : Int) - (1 : Int))))) (K (.tup [.data (Ty.sl TColumn) [], .data Ty.bool false]) []) ((0 ≤ s.2.1) ∧ (s.2.1 < (ahead.length : Int)) ∧ ((([] : List TColumn.D).length + (nth (t := (Ty.sl TColumn)) ahead s.2.1).length) * 16 ≤ lim) ∧ cond (decide (s.1 = (2 : Int))) ((Sm (Ty.sl TColumn) ([] ++ (nth (t := (Ty.sl TColumn)) ahead s.2.1))) ∧ (Sm (Ty.sl TPart) s.2.2.2.2.1) ∧ K (.tup [.data (Ty.sl TColumn) ([] ++ (nth (t := (Ty.sl TColumn)) ahead s.2.1)), .data Ty.bool (decide ((M.exprKind ([] ++ (nth (t := (Ty.sl TColumn)) ahead s.2.1)) s.2.2.2.2.1) = (3 : Int)))]) []) (cond (decide (s.1 = (3 : Int))) ((∃ m_, (True) ∧ LoopE (t := TInt) (fun (i1 : Int) (v1 : (List (TColumn).D)) => (⟨[(5, .adr TStep s), (8, .own 53 none), (9, .own 72 none), (10, .data TInt i1)], [(53, .arr false TColumn ([] ++ (nth (t := (Ty.sl TColumn)) ahead s.2.1))), (72, .arr false TColumn v1)]⟩ : St)) s.2.2.2.2.2.1 (F.spec_l6Columns_l1 tables ahead s) (fun v1 : (List (TColumn).D) => True) (outD (fun v1 : (List (TColumn).D) => True → K (.tup [.data (Ty.sl TColumn) v1, .data Ty.bool (decide ((v1.length : Int) ≤ (4 : Int)))]) []) (fun q1 : Unit => K (.tup [.data (Ty.sl TColumn) [], .data Ty.bool false]) [])) m_ (⟨[(5, .adr TStep s), (8, .own 53 none), (9, .own 72 none), (10, .data TInt (0 : Int))], [(53, .arr false TColumn ([] ++ (nth (t := (Ty.sl TColumn)) ahead s.2.1))), (72, .arr false TColumn [])]⟩ : St))) (cond (decide (s.1 = (4 : Int))) ((0 ≤ s.2.2.1) ∧ (s.2.2.1 < (ahead.length : Int)) ∧ ((([] ++ (nth (t := (Ty.sl TColumn)) ahead s.2.1)).length + (nth (t := (Ty.sl TColumn)) ahead s.2.2.1).length) * 16 ≤ lim) ∧ cond ((decide (((([] ++ (nth (t := (Ty.sl TColumn)) ahead s.2.1)) ++ (nth (t := (Ty.sl TColumn)) ahead s.2.2.1)).length : Int) ≤ (4 : Int))) == true) ((Sm (Ty.sl TColumn) (([] ++ (nth (t := (Ty.sl TColumn)) ahead s.2.1)) ++ (nth (t := (Ty.sl TColumn)) ahead s.2.2.1))) ∧ (Sm (Ty.sl TPart) s.2.2.2.2.1) ∧ K (.tup [.data (Ty.sl TColumn) (([] ++ (nth (t := (Ty.sl TColumn)) ahead s.2.1)) ++ (nth (t := (Ty.sl TColumn)) ahead s.2.2.1)), .data Ty.bool (decide ((M.exprKind (([] ++ (nth (t := (Ty.sl TColumn)) ahead s.2.1)) ++ (nth (t := (Ty.sl TColumn)) ahead s.2.2.1)) s.2.2.2.2.1) = (3 : Int)))]) []) (K (.tup [.data (Ty.sl TColumn) (([] ++ (nth (t := (Ty.sl TColumn)) ahead s.2.1)) ++ (nth (t := (Ty.sl TColumn)) ahead s.2.2.1)), .data Ty.bool false]) [])) (cond (decide (s.1 = (5 : Int))) ((0 ≤ s.2.2.1) ∧ (s.2.2.1 < (ahead.length : Int)) ∧ cond (!decide ((([] ++ (nth (t := (Ty.sl TColumn)) ahead s.2.1)).length : Int) = ((nth (t := (Ty.sl TColumn)) ahead s.2.2.1).length : Int))) (K (.tup [.data (Ty.sl TColumn) [], .data Ty.bool false]) []) ((∃ m_, (True) ∧ LoopW (fun v3 : Int × (List (TColumn).D) => (⟨[(1, .brw (Ty.sl TColumn) ahead), (5, .adr TStep s), (8, .own 53 none), (12, .data TInt v3.1)], [(53, .arr false TColumn v3.2)]⟩ : St)) (F.spec_l6Columns_l3 tables ahead s) (fun v3 : Int × (List (TColumn).D) => True) (outD (fun e3 : (List (TColumn).D) => True → K (.tup [.data (Ty.sl TColumn) e3, .data Ty.bool true]) []) (fun q3 : Unit => K (.tup [.data (Ty.sl TColumn) [], .data Ty.bool false]) [])) m_ (⟨[(1, .brw (Ty.sl TColumn) ahead), (5, .adr TStep s), (8, .own 53 none), (12, .data TInt (0 : Int))], [(53, .arr false TColumn ([] ++ (nth (t := (Ty.sl TColumn)) ahead s.2.1)))]⟩ : St)))) (cond (decide (s.1 = (6 : Int))) (K (.tup [.data (Ty.sl TColumn) ([] ++ (nth (t := (Ty.sl TColumn)) ahead s.2.1)), .data Ty.bool true]) []) (K (.tup [.data (Ty.sl TColumn) [], .data Ty.bool false]) []))))))) (K (.tup [.data (Ty.sl TColumn) [], .data Ty.bool false]) [])))) := by kernel_rfl
theorem lvc106_0 (tables : (List (TTable).D)) (ahead : (List (List (TColumn).D))) (s : (TStep).D)  (i1 : Int) (v1 : (List (TColumn).D)) (m : Nat) (K : X → St → Prop) : awp C106 (L106 tables ahead s) ann106 (loopAt (bodyOf f106) 0) (⟨[(5, .adr TStep s), (8, .own 53 none), (9, .own 72 none), (10, .data TInt i1)], [(53, .arr false TColumn ([] ++ (nth (t := (Ty.sl TColumn)) ahead s.2.1))), (72, .arr false TColumn v1)]⟩ : St) (thenW (fun s' => ∃ m', m' < m ∧ (L106 tables ahead s) 1 m' s' K) (exitN 1 (ann106 (behind 1)) K)) =
 (cond (decide (i1 < (s.2.2.2.2.2.1.length : Int))) ((0 ≤ i1) ∧ (i1 < (s.2.2.2.2.2.1.length : Int)) ∧ cond (!(M.inR (nth (t := TInt) s.2.2.2.2.2.1 i1) (0 : Int) (wrap64 ((([] ++ (nth (t := (Ty.sl TColumn)) ahead s.2.1)).length : Int) - (1 : Int))))) (K .ret (⟨[(6, .own 90 none), (7, .data Ty.bool false)], [(90, .arr false TColumn [])]⟩ : St)) ((0 ≤ i1) ∧ (i1 < (s.2.2.2.2.2.1.length : Int)) ∧ (0 ≤ (nth (t := TInt) s.2.2.2.2.2.1 i1)) ∧ ((nth (t := TInt) s.2.2.2.2.2.1 i1) < (([] ++ (nth (t := (Ty.sl TColumn)) ahead s.2.1)).length : Int)) ∧ ((v1.length + [(nth (t := TColumn) ([] ++ (nth (t := (Ty.sl TColumn)) ahead s.2.1)) (nth (t := TInt) s.2.2.2.2.2.1 i1))].length) * 16 ≤ lim) ∧ (∃ m_, m_ < m ∧ (L106 tables ahead s) 1 m_ (⟨[(5, .adr TStep s), (8, .own 53 none), (9, .own 72 none), (10, .data TInt (wrap64 (i1 + (1 : Int))))], [(53, .arr false TColumn ([] ++ (nth (t := (Ty.sl TColumn)) ahead s.2.1))), (72, .arr false TColumn (v1 ++ [(nth (t := TColumn) ([] ++ (nth (t := (Ty.sl TColumn)) ahead s.2.1)) (nth (t := TInt) s.2.2.2.2.2.1 i1))]))]⟩ : St) K))) (K (.exit 1) (⟨[(9, .own 72 none)], [(72, .arr false TColumn v1)]⟩ : St))) := by kernel_rfl
theorem lvc106_1 (tables : (List (TTable).D)) (ahead : (List (List (TColumn).D))) (s : (TStep).D)  (v3 : Int × (List (TColumn).D)) (m : Nat) (K : X → St → Prop) : awp C106 (L106 tables ahead s) ann106 (loopAt (bodyOf f106) 1) (⟨[(1, .brw (Ty.sl TColumn) ahead), (5, .adr TStep s), (8, .own 53 none), (12, .data TInt v3.1)], [(53, .arr false TColumn v3.2)]⟩ : St) (thenW (fun s' => ∃ m', m' < m ∧ (L106 tables ahead s) 3 m' s' K) (exitN 3 (ann106 (behind 3)) K)) =
 (cond (decide (v3.1 < (v3.2.length : Int))) ((0 ≤ v3.1) ∧ (v3.1 < (v3.2.length : Int)) ∧ (0 ≤ s.2.2.1) ∧ (s.2.2.1 < (ahead.length : Int)) ∧ (0 ≤ v3.1) ∧ (v3.1 < ((nth (t := (Ty.sl TColumn)) ahead s.2.2.1).length : Int)) ∧ cond (!decide ((nth (t := TColumn) v3.2 v3.1).1 = (nth (t := TColumn) (nth (t := (Ty.sl TColumn)) ahead s.2.2.1) v3.1).1)) (K .ret (⟨[(6, .own 159 none), (7, .data Ty.bool false)], [(159, .arr false TColumn [])]⟩ : St)) ((0 ≤ v3.1) ∧ (v3.1 < (v3.2.length : Int)) ∧ cond ((((nth (t := TColumn) v3.2 v3.1).2).1) == false) ((0 ≤ s.2.2.1) ∧ (s.2.2.1 < (ahead.length : Int)) ∧ (0 ≤ v3.1) ∧ (v3.1 < ((nth (t := (Ty.sl TColumn)) ahead s.2.2.1).length : Int)) ∧ (0 ≤ v3.1) ∧ (v3.1 < (v3.2.length : Int)) ∧ (let y_33_20 : (List (TColumn).D) := (v3.2.set v3.1.toNat ((nth (t := TColumn) v3.2 v3.1).1, (nth (t := TColumn) (nth (t := (Ty.sl TColumn)) ahead s.2.2.1) v3.1).2)); (∃ m_, m_ < m ∧ (L106 tables ahead s) 3 m_ (⟨[(1, .brw (Ty.sl TColumn) ahead), (5, .adr TStep s), (8, .own 53 none), (12, .data TInt (wrap64 (v3.1 + (1 : Int))))], [(53, .arr false TColumn y_33_20)]⟩ : St) K))) ((0 ≤ v3.1) ∧ (v3.1 < (v3.2.length : Int)) ∧ (∃ m_, m_ < m ∧ (L106 tables ahead s) 3 m_ (⟨[(1, .brw (Ty.sl TColumn) ahead), (5, .adr TStep s), (8, .own 53 none), (12, .data TInt (wrap64 (v3.1 + (1 : Int))))], [(53, .arr false TColumn (v3.2.set v3.1.toNat ((nth (t := TColumn) v3.2 v3.1).1, (true, ()))))]⟩ : St) K)))) (K (.exit 3) (⟨[(8, .own 53 none)], [(53, .arr false TColumn v3.2)]⟩ : St))) := by kernel_rfl
theorem con106_ok : ConOk P 106 c106 := by
 refine con_okR (fn := f106) (code := bodyOf f106) (tab_ok tab_check cmp_check) consOk106 mixed func106 rfl rfl fun args hp K h0 => ?_
 obtain ⟨a0, a1, a2, rfl, rfl, h1⟩ := args3_elim h0
 obtain ⟨tables, rfl, h2⟩ := withD_elim h1
 obtain ⟨ahead, rfl, h3⟩ := withB_elim h2
 obtain ⟨s, rfl, h4⟩ := withD_elim h3
 obtain ⟨h_tables, h_ahead, h_s, hK⟩ := h4
 have h : ok (F.spec_l6Columns tables ahead s) (fun r => K (.tup [.data (Ty.sl TColumn) r.1, .data Ty.bool r.2]) []) := ok_of_eq (F.spec_l6Columns_eq tables ahead s h_tables h_ahead h_s) (hK _ rfl)
 refine ⟨⟨show (3 : Nat) ≤ 185 by decide, show (3 : Nat) ≤ 1000000 by decide⟩, ann106, (L106 tables ahead s), (.tup [(Ty.sl TColumn), Ty.bool]), (loopsN2 (i0 := 1) (i1 := 3) (by kernel_rfl) ?_ ?_), ?_⟩
 ·clear h
  intro m_ s_ K_ h
  obtain ⟨hc1, i1, v1, rfl, hl1, rfl, hv1, h⟩ := (show LP106_1 tables ahead s m_ s_ K_ from h)
  rw [lvc106_0 tables ahead s i1 v1 _ K_]
  exact (loopE_step (t := TInt) hl1 h (fun ht1 h => ⟨hl1, ⟨ht1, (ok_cond h (fun b_22 h => (ok_ret h :)) (fun b_22 h => ⟨hl1, ⟨ht1, ⟨(inR_lo (bnf b_22)), ⟨(inR_hi (bnf b_22)), ⟨(ok_guard h).1, have h := (ok_guard h).2; (loopE_next (t := TInt) (fun m hm => (show LP106_1 tables ahead s m _ _ from ⟨hc1, hm⟩)) (v1 ++ [(nth (t := TColumn) ([] ++ (nth (t := (Ty.sl TColumn)) ahead s.2.1)) (nth (t := TInt) s.2.2.2.2.2.1 i1))]) rfl hl1 ht1 (sm_len h_s.2.2.2.2.2.1) trivial (ok_ret h :))⟩⟩⟩⟩⟩))⟩⟩) (fun h => (h trivial)))
 ·clear h
  intro m_ s_ K_ h
  obtain ⟨hc3, v3, rfl, hv3, h⟩ := (show LP106_3 tables ahead s m_ s_ K_ from h)
  rw [lvc106_1 tables ahead s v3 _ K_]
  exact (loopW_step h (fun m1 hm3 h => (ok_cond h (fun b_37 h => ⟨(ok_guard h).1, have g_38 := (ok_guard h).1; have h := (ok_guard h).2; ⟨(ok_guard h).1, have g_39 := (ok_guard h).1; have h := (ok_guard h).2; ⟨(ok_guard h).1, have g_40 := (ok_guard h).1; have h := (ok_guard h).2; ⟨(ok_guard h).1, have g_41 := (ok_guard h).1; have h := (ok_guard h).2; ⟨g_38, ⟨(ok_guard h).1, have g_42 := (ok_guard h).1; have h := (ok_guard h).2; (ok_cond h (fun b_43 h => (ok_ret h :)) (fun b_43 h => ⟨g_38, ⟨g_39, (ok_cond h (fun b_44 h => ⟨g_40, ⟨g_41, ⟨g_38, ⟨g_42, ⟨g_38, ⟨g_39, (let y_33_20 : (List (TColumn).D) := (v3.2.set v3.1.toNat ((nth (t := TColumn) v3.2 v3.1).1, (nth (t := TColumn) (nth (t := (Ty.sl TColumn)) ahead s.2.2.1) v3.1).2)); have h := ok_let h y_33_20 rfl; (loopW_next (fun m hm => (show LP106_3 tables ahead s m _ _ from ⟨hc3, hm⟩)) hm3 (wrap64 (v3.1 + (1 : Int)), y_33_20) rfl trivial (ok_ret h :)))⟩⟩⟩⟩⟩⟩) (fun b_44 h => ⟨g_38, ⟨g_39, (loopW_next (fun m hm => (show LP106_3 tables ahead s m _ _ from ⟨hc3, hm⟩)) hm3 (wrap64 (v3.1 + (1 : Int)), (v3.2.set v3.1.toNat ((nth (t := TColumn) v3.2 v3.1).1, (true, ())))) rfl trivial (ok_ret h :))⟩⟩))⟩⟩))⟩⟩⟩⟩⟩⟩) (fun b_37 h => ((ok_ret h :) trivial)))))
 ·rw [vc106 tables ahead s K]
  exact ⟨h_s, (ok_cond h (fun b_1 h => (ok_ret h :)) (fun b_1 h => (ok_cond h (fun b_2 h => (ok_cond h (fun b_3 h => (ok_ret h :)) (fun b_3 h => ⟨(inR_lo (bnf b_3)), ⟨(inR_hi (bnf b_3)), ⟨(sm_lim2 (sm_nil TColumn) (sm_nth h_tables s.2.2.2.1).1 rfl), (ok_ret h :)⟩⟩⟩))) (fun b_2 h => (ok_cond h (fun b_4 h => (ok_cond h (fun b_5 h => (ok_ret h :)) (fun b_5 h => ⟨(inR_lo (bnf (bgt b_4))), ⟨(inR_hi (bnf (bgt b_4))), ⟨(sm_lim2 (sm_nil TColumn) (sm_nth h_ahead s.2.1) rfl), (ok_cond h (fun b_6 h => ⟨(ok_guard h).1, have h := (ok_guard h).2; ⟨h_s.2.2.2.2.1, (ok_ret h :)⟩⟩) (fun b_6 h => (ok_cond h (fun b_8 h => (loopE_start (t := TInt) (fun m hm => ⟨trivial, hm⟩) [] rfl trivial (ok_then h (fun v1 h hv1 => (ok_ret h :)) (fun q1 h => (ok_ret h :))))) (fun b_8 h => (ok_cond h (fun b_24 h => ⟨(inR_lo (bnf b_5)), ⟨(inR_hi (bnf b_5)), ⟨(ok_guard h).1, have h := (ok_guard h).2; (ok_cond h (fun b_26 h => ⟨(ok_guard h).1, have h := (ok_guard h).2; ⟨h_s.2.2.2.2.1, (ok_ret h :)⟩⟩) (fun b_26 h => (ok_ret h :)))⟩⟩⟩) (fun b_24 h => (ok_cond h (fun b_28 h => ⟨(inR_lo (bnf b_5)), ⟨(inR_hi (bnf b_5)), (ok_cond h (fun b_29 h => (ok_ret h :)) (fun b_29 h => (loopW_start (fun m hm => ⟨trivial, hm⟩) ((0 : Int), ([] ++ (nth (t := (Ty.sl TColumn)) ahead s.2.1))) rfl trivial (ok_then h (fun e3 h hv3 => (ok_ret h :)) (fun q3 h => (ok_ret h :))))))⟩⟩) (fun b_28 h => (ok_cond h (fun b_45 h => (ok_ret h :)) (fun b_45 h => (ok_ret h :)))))))))))⟩⟩⟩))) (fun b_4 h => (ok_ret h :)))))))⟩
def c107 : Con := ⟨[.lent TInt, .dat TStep], fun args hp K => args2 (fun a0 a1 => withB TInt a0 fun ahead => withD TStep a1 fun s => (Sm (Ty.sl TInt) ahead) ∧ (Sm TStep s) ∧ (M.stepIn (ahead.length : Int) s) ∧ K (.data TInt (M.stepMost ahead s)) []) args hp, .plain⟩
def cons107 : Cons := []
@[reducible] def C107 : Ctx := ⟨tab, fun t => memN t cmps, cons107, 40, [], 0, false⟩
theorem consOk107 : ConsOk P C107 := by
 exact consOk_nil
def ann107 : Nat → List Dir
 | 0 => [.fixRow 3 TStep, .keep [0, 3]]
 | 1 => [.keep [0, 3, 6]]
 | 2 => [.keep [0, 3, 6, 7]]
 | 3 => [.keep [4]]
 | 4 => [.keep [0, 3, 6, 9]]
 | 5 => [.keep [4]]
 | 6 => [.keep [0, 3, 22]]
 | 7 => [.keep [4]]
 | 8 => [.keep [4]]
 | _ => []
def L107 (ahead : (List Int)) (s : (TStep).D) : Loops := fun id m st_ K => match id with
 | _ => False
theorem vc107 (ahead : (List Int)) (s : (TStep).D) (K : AV → Hp → Prop) : awp C107 (L107 ahead s) ann107 (bodyOf f107) ⟨argEnv 0 [.brw TInt ahead, .data TStep s], []⟩ (outK tab false f107.results.toList (hasBox []) (resK (.dat TInt) K)) =
 (cond (decide (s.1 = (1 : Int))) (K (.data TInt (6 : Int)) []) (cond (decide (s.1 = (4 : Int))) ((0 ≤ s.2.1) ∧ (s.2.1 < (ahead.length : Int)) ∧ (0 ≤ s.2.2.1) ∧ (s.2.2.1 < (ahead.length : Int)) ∧ K (.data TInt (wrap64 ((nth (t := TInt) ahead s.2.1) * (nth (t := TInt) ahead s.2.2.1)))) []) (cond (decide (s.1 = (5 : Int))) ((0 ≤ s.2.1) ∧ (s.2.1 < (ahead.length : Int)) ∧ (0 ≤ s.2.2.1) ∧ (s.2.2.1 < (ahead.length : Int)) ∧ K (.data TInt (wrap64 ((nth (t := TInt) ahead s.2.1) + (nth (t := TInt) ahead s.2.2.1)))) []) ((0 ≤ s.2.1) ∧ (s.2.1 < (ahead.length : Int)) ∧ K (.data TInt (nth (t := TInt) ahead s.2.1)) [])))) := by kernel_rfl
theorem con107_ok : ConOk P 107 c107 := by
 refine con_okR (fn := f107) (code := bodyOf f107) (tab_ok tab_check cmp_check) consOk107 mixed func107 rfl rfl fun args hp K h0 => ?_
 obtain ⟨a0, a1, rfl, rfl, h1⟩ := args2_elim h0
 obtain ⟨ahead, rfl, h2⟩ := withB_elim h1
 obtain ⟨s, rfl, h3⟩ := withD_elim h2
 obtain ⟨h_ahead, h_s, p0, hK⟩ := h3
 have h : ok (F.spec_l6Made ahead s) (fun r => K (.data TInt r) []) := ok_of_eq (F.spec_l6Made_eq ahead s h_ahead h_s p0) hK
 refine ⟨⟨show (2 : Nat) ≤ 40 by decide, show (2 : Nat) ≤ 1000000 by decide⟩, ann107, (L107 ahead s), (.dat TInt), (no_loops (by kernel_rfl)), ?_⟩
 ·rw [vc107 ahead s K]
  exact (ok_cond h (fun b_1 h => (ok_ret h :)) (fun b_1 h => (ok_cond h (fun b_2 h => ⟨(ok_guard h).1, have h := (ok_guard h).2; ⟨(ok_guard h).1, have h := (ok_guard h).2; ⟨(ok_guard h).1, have h := (ok_guard h).2; ⟨(ok_guard h).1, have h := (ok_guard h).2; (ok_ret h :)⟩⟩⟩⟩) (fun b_2 h => (ok_cond h (fun b_7 h => ⟨(ok_guard h).1, have h := (ok_guard h).2; ⟨(ok_guard h).1, have h := (ok_guard h).2; ⟨(ok_guard h).1, have h := (ok_guard h).2; ⟨(ok_guard h).1, have h := (ok_guard h).2; (ok_ret h :)⟩⟩⟩⟩) (fun b_7 h => ⟨(ok_guard h).1, have h := (ok_guard h).2; ⟨(ok_guard h).1, have h := (ok_guard h).2; (ok_ret h :)⟩⟩))))))
def c63 : Con := ⟨[.dat (Ty.sl TTable), .dat (Ty.sl TStep)], fun args hp K => args2 (fun a0 a1 => withD (Ty.sl TTable) a0 fun tables => withD (Ty.sl TStep) a1 fun plan => (Sm (Ty.sl TTable) tables) ∧ (Sm (Ty.sl TStep) plan) ∧ (∀ r : (List (List (TColumn).D)) × Bool, r = (M.planAll tables plan) → K (.tup [.data (Ty.sl (Ty.sl TColumn)) r.1, .data Ty.bool r.2]) [])) args hp, .plain⟩
def cons63 : Cons := [(106, c106), (107, c107)]
@[reducible] def C63 : Ctx := ⟨tab, fun t => memN t cmps, cons63, 52, [], 0, false⟩
theorem consOk63 : ConsOk P C63 := by
 refine consOk_cons (enter_ok (fn := f106) func106 (by kernel_rfl) rfl) con106_ok ?_
 refine consOk_cons (enter_ok (fn := f107) func107 (by kernel_rfl) rfl) con107_ok ?_
 exact consOk_nil
def ann63 : Nat → List Dir
 | 0 => [.keep [0, 1]]
 | 1 => [.keep [0, 1, 6]]
 | 2 => [.keep [0, 1, 6, 7]]
 | 3 => [.keep [0, 1, 6, 7, 8]]
 | 4 => [.keep [0, 1, 6, 7, 8, 16]]
 | 5 => [.keep [0, 1, 6, 7, 8]]
 | 6 => [.keep [0, 1, 6, 7, 8, 9, 10]]
 | 7 => [.keep [0, 1, 6, 7, 8, 9, 30]]
 | 8 => [.freeze 31, .keep [4, 5]]
 | 9 => [.keep [0, 1, 6, 7, 8]]
 | 10 => [.keep [0, 1, 6, 7, 8]]
 | 11 => [.keep [0, 1, 6, 7, 8, 49]]
 | 12 => [.freeze 50, .keep [4, 5]]
 | 13 => [.keep [4, 5]]
 | 100000 => [.keep [6]]
 | _ => []
@[reducible] def LP63_0 (tables : (List (TTable).D)) (plan : (List (TStep).D)) (m : Nat) (st_ : St) (K : X → St → Prop) : Prop := (True) ∧ LoopI (fun (i0 : Int) (v0 : (List (List (TColumn).D)) × (List Int)) => (⟨[(0, .data (Ty.sl TTable) tables), (1, .data (Ty.sl TStep) plan), (6, .own 11 none), (7, .own 12 none), (8, .data TInt i0)], [(11, .arr false (Ty.sl TColumn) v0.1), (12, .arr false TInt v0.2)]⟩ : St)) (0 : Int) (plan.length : Int) (F.spec_l6All_l0 tables plan) (fun v0 : (List (List (TColumn).D)) × (List Int) => True) (outD (fun v0 : (List (List (TColumn).D)) × (List Int) => True → K (.exit 0) (⟨[(6, .own 11 none)], [(11, .arr false (Ty.sl TColumn) v0.1)]⟩ : St)) (fun q0 : Unit => K .ret (⟨[(4, .data (Ty.sl (Ty.sl TColumn)) []), (5, .data Ty.bool false)], []⟩ : St))) m st_
def L63 (tables : (List (TTable).D)) (plan : (List (TStep).D)) : Loops := fun id m st_ K => match id with
 | 0 => LP63_0 tables plan m st_ K
 | _ => False
theorem vc63 (tables : (List (TTable).D)) (plan : (List (TStep).D)) (K : AV → Hp → Prop) : awp C63 (L63 tables plan) ann63 (bodyOf f63) ⟨argEnv 0 [.data (Ty.sl TTable) tables, .data (Ty.sl TStep) plan], []⟩ (outK tab false f63.results.toList (hasBox []) (resK (.tup [(Ty.sl (Ty.sl TColumn)), Ty.bool]) K)) =
 ((∃ m_, (True) ∧ LoopI (fun (i0 : Int) (v0 : (List (List (TColumn).D)) × (List Int)) => (⟨[(0, .data (Ty.sl TTable) tables), (1, .data (Ty.sl TStep) plan), (6, .own 11 none), (7, .own 12 none), (8, .data TInt i0)], [(11, .arr false (Ty.sl TColumn) v0.1), (12, .arr false TInt v0.2)]⟩ : St)) (0 : Int) (plan.length : Int) (F.spec_l6All_l0 tables plan) (fun v0 : (List (List (TColumn).D)) × (List Int) => True) (outD (fun v0 : (List (List (TColumn).D)) × (List Int) => True → K (.tup [.data (Ty.sl (Ty.sl TColumn)) v0.1, .data Ty.bool true]) []) (fun q0 : Unit => K (.tup [.data (Ty.sl (Ty.sl TColumn)) [], .data Ty.bool false]) [])) m_ (⟨[(0, .data (Ty.sl TTable) tables), (1, .data (Ty.sl TStep) plan), (6, .own 11 none), (7, .own 12 none), (8, .data TInt (0 : Int))], [(11, .arr false (Ty.sl TColumn) []), (12, .arr false TInt [])]⟩ : St))) := by kernel_rfl
theorem lvc63_0 (tables : (List (TTable).D)) (plan : (List (TStep).D))  (i0 : Int) (v0 : (List (List (TColumn).D)) × (List Int)) (m : Nat) (K : X → St → Prop) : awp C63 (L63 tables plan) ann63 (loopAt (bodyOf f63) 0) (⟨[(0, .data (Ty.sl TTable) tables), (1, .data (Ty.sl TStep) plan), (6, .own 11 none), (7, .own 12 none), (8, .data TInt i0)], [(11, .arr false (Ty.sl TColumn) v0.1), (12, .arr false TInt v0.2)]⟩ : St) (thenW (fun s' => ∃ m', m' < m ∧ (L63 tables plan) 0 m' s' K) (exitN 0 (ann63 (behind 0)) K)) =
 (cond (decide (i0 < (plan.length : Int))) ((0 ≤ i0) ∧ (i0 < (plan.length : Int)) ∧ (Sm (Ty.sl TTable) tables) ∧ (Sm (Ty.sl (Ty.sl TColumn)) v0.1) ∧ (Sm TStep (nth (t := TStep) plan i0)) ∧ (∀ r_6_6 : (List (TColumn).D) × Bool, r_6_6 = (M.l6Columns tables v0.1 (nth (t := TStep) plan i0)) → cond (!r_6_6.2) (K .ret (⟨[(4, .data (Ty.sl (Ty.sl TColumn)) []), (5, .data Ty.bool false)], []⟩ : St)) (((v0.1.length + [r_6_6.1].length) * 24 ≤ lim) ∧ (0 ≤ i0) ∧ (i0 < (plan.length : Int)) ∧ (Sm (Ty.sl TInt) v0.2) ∧ (Sm TStep (nth (t := TStep) plan i0)) ∧ (M.stepIn (v0.2.length : Int) (nth (t := TStep) plan i0)) ∧ ((v0.2.length + [(M.stepMost v0.2 (nth (t := TStep) plan i0))].length) * 8 ≤ lim) ∧ (0 ≤ i0) ∧ (i0 < ((v0.2 ++ [(M.stepMost v0.2 (nth (t := TStep) plan i0))]).length : Int)) ∧ cond (decide ((300 : Int) < (nth (t := TInt) (v0.2 ++ [(M.stepMost v0.2 (nth (t := TStep) plan i0))]) i0))) (K .ret (⟨[(4, .data (Ty.sl (Ty.sl TColumn)) []), (5, .data Ty.bool false)], []⟩ : St)) ((∃ m_, m_ < m ∧ (L63 tables plan) 0 m_ (⟨[(0, .data (Ty.sl TTable) tables), (1, .data (Ty.sl TStep) plan), (6, .own 11 none), (7, .own 12 none), (8, .data TInt (wrap64 (i0 + (1 : Int))))], [(11, .arr false (Ty.sl TColumn) (v0.1 ++ [r_6_6.1])), (12, .arr false TInt (v0.2 ++ [(M.stepMost v0.2 (nth (t := TStep) plan i0))]))]⟩ : St) K))))) (K (.exit 0) (⟨[(6, .own 11 none)], [(11, .arr false (Ty.sl TColumn) v0.1)]⟩ : St))) := by kernel_rfl
theorem con63_ok : ConOk P 63 c63 := by
 refine con_okR (fn := f63) (code := bodyOf f63) (tab_ok tab_check cmp_check) consOk63 mixed func63 rfl rfl fun args hp K h0 => ?_
 obtain ⟨a0, a1, rfl, rfl, h1⟩ := args2_elim h0
 obtain ⟨tables, rfl, h2⟩ := withD_elim h1
 obtain ⟨plan, rfl, h3⟩ := withD_elim h2
 obtain ⟨h_tables, h_plan, hK⟩ := h3
 have h : ok (F.spec_l6All tables plan) (fun r => K (.tup [.data (Ty.sl (Ty.sl TColumn)) r.1, .data Ty.bool r.2]) []) := ok_of_eq (F.spec_l6All_eq tables plan h_tables h_plan) (hK _ rfl)
 refine ⟨⟨show (2 : Nat) ≤ 52 by decide, show (2 : Nat) ≤ 1000000 by decide⟩, ann63, (L63 tables plan), (.tup [(Ty.sl (Ty.sl TColumn)), Ty.bool]), (loopsN1 (i0 := 0) (by kernel_rfl) ?_), ?_⟩
 ·clear h
  intro m_ s_ K_ h
  obtain ⟨hc0, i0, v0, rfl, hl0, rfl, hv0, h⟩ := (show LP63_0 tables plan m_ s_ K_ from h)
  rw [lvc63_0 tables plan i0 v0 _ K_]
  exact (loopI_step h (fun ht0 h => ⟨hl0, ⟨ht0, ⟨h_tables, ⟨(ok_guard h).1, have h := (ok_guard h).2; ⟨(sm_nth h_plan i0), (fun r_6_6 e_r_6_6 => have h := ok_let h r_6_6 e_r_6_6; (ok_cond h (fun b_29 h => (ok_ret h :)) (fun b_29 h => ⟨(ok_guard h).1, have h := (ok_guard h).2; ⟨hl0, ⟨ht0, ⟨(ok_guard h).1, have h := (ok_guard h).2; ⟨(sm_nth h_plan i0), ⟨(ok_guard h).1, have h := (ok_guard h).2; ⟨(ok_guard h).1, have h := (ok_guard h).2; ⟨hl0, ⟨(ok_guard h).1, have h := (ok_guard h).2; (ok_cond h (fun b_35 h => (ok_ret h :)) (fun b_35 h => (loopI_next (fun m hm => (show LP63_0 tables plan m _ _ from ⟨hc0, hm⟩)) ((v0.1 ++ [r_6_6.1]), (v0.2 ++ [(M.stepMost v0.2 (nth (t := TStep) plan i0))])) rfl hl0 low0 ht0 (sm_len h_plan) trivial (ok_ret h :))))⟩⟩⟩⟩⟩⟩⟩⟩⟩)))⟩⟩⟩⟩⟩) (fun h => (h trivial)))
 ·rw [vc63 tables plan K]
  exact (loopI_start (fun m hm => ⟨trivial, hm⟩) (0 : Int) ([], []) rfl (Int.natCast_nonneg 0) trivial (ok_then h (fun v0 h hv0 => (ok_ret h :)) (fun q0 h => (ok_ret h :))))
def c190 : Con := ⟨[.dat (Ty.sl TValue)], fun args hp K => args1 (fun a0 => withD (Ty.sl TValue) a0 fun row => (Sm (Ty.sl TValue) row) ∧ K (.data Ty.bool (M.rowOk row)) []) args hp, .plain⟩
def cons190 : Cons := [(157, c157)]
@[reducible] def C190 : Ctx := ⟨tab, fun t => memN t cmps, cons190, 19, [], 0, false⟩
theorem consOk190 : ConsOk P C190 := by
 refine consOk_cons (enter_ok (fn := f157) func157 (by kernel_rfl) rfl) con157_ok ?_
 exact consOk_nil
def ann190 : Nat → List Dir
 | 0 => [.keep [0]]
 | 1 => [.keep [0, 3]]
 | 2 => [.keep [0, 3, 7]]
 | 3 => [.keep [0, 3]]
 | 4 => [.keep [0, 3, 15]]
 | 5 => [.keep [2]]
 | 6 => [.keep [2]]
 | 100000 => [.keep [0]]
 | _ => []
@[reducible] def LP190_0 (row : (List (TValue).D)) (m : Nat) (st_ : St) (K : X → St → Prop) : Prop := (True) ∧ LoopE (t := TValue) (fun (i0 : Int) (v0 : Unit) => (⟨[(0, .data (Ty.sl TValue) row), (3, .data TInt i0)], []⟩ : St)) row (F.spec_RowOk_l0 row) (fun v0 : Unit => True) (outD (fun v0 : Unit => True → K (.exit 0) (⟨[(0, .data (Ty.sl TValue) row)], []⟩ : St)) (fun q0 : Unit => K .ret (⟨[(2, .data Ty.bool false)], []⟩ : St))) m st_
def L190 (row : (List (TValue).D)) : Loops := fun id m st_ K => match id with
 | 0 => LP190_0 row m st_ K
 | _ => False
theorem vc190 (row : (List (TValue).D)) (K : AV → Hp → Prop) : awp C190 (L190 row) ann190 (bodyOf f190) ⟨argEnv 0 [.data (Ty.sl TValue) row], []⟩ (outK tab false f190.results.toList (hasBox []) (resK (.dat Ty.bool) K)) =
 ((∃ m_, (True) ∧ LoopE (t := TValue) (fun (i0 : Int) (v0 : Unit) => (⟨[(0, .data (Ty.sl TValue) row), (3, .data TInt i0)], []⟩ : St)) row (F.spec_RowOk_l0 row) (fun v0 : Unit => True) (outD (fun v0 : Unit => True → K (.data Ty.bool (decide ((row.length : Int) ≤ (4 : Int)))) []) (fun q0 : Unit => K (.data Ty.bool false) [])) m_ (⟨[(0, .data (Ty.sl TValue) row), (3, .data TInt (0 : Int))], []⟩ : St))) := by kernel_rfl
theorem lvc190_0 (row : (List (TValue).D))  (i0 : Int) (v0 : Unit) (m : Nat) (K : X → St → Prop) : awp C190 (L190 row) ann190 (loopAt (bodyOf f190) 0) (⟨[(0, .data (Ty.sl TValue) row), (3, .data TInt i0)], []⟩ : St) (thenW (fun s' => ∃ m', m' < m ∧ (L190 row) 0 m' s' K) (exitN 0 (ann190 (behind 0)) K)) =
 (cond (decide (i0 < (row.length : Int))) ((0 ≤ i0) ∧ (i0 < (row.length : Int)) ∧ (Sm TValue (nth (t := TValue) row i0)) ∧ cond (!(M.valueOk (nth (t := TValue) row i0))) (K .ret (⟨[(2, .data Ty.bool false)], []⟩ : St)) ((∃ m_, m_ < m ∧ (L190 row) 0 m_ (⟨[(0, .data (Ty.sl TValue) row), (3, .data TInt (wrap64 (i0 + (1 : Int))))], []⟩ : St) K))) (K (.exit 0) (⟨[(0, .data (Ty.sl TValue) row)], []⟩ : St))) := by kernel_rfl
theorem con190_ok : ConOk P 190 c190 := by
 refine con_okR (fn := f190) (code := bodyOf f190) (tab_ok tab_check cmp_check) consOk190 mixed func190 rfl rfl fun args hp K h0 => ?_
 obtain ⟨a0, rfl, rfl, h1⟩ := args1_elim h0
 obtain ⟨row, rfl, h2⟩ := withD_elim h1
 obtain ⟨h_row, hK⟩ := h2
 have h : ok (F.spec_RowOk row) (fun r => K (.data Ty.bool r) []) := ok_of_eq (F.spec_RowOk_eq row h_row) hK
 refine ⟨⟨show (1 : Nat) ≤ 19 by decide, show (1 : Nat) ≤ 1000000 by decide⟩, ann190, (L190 row), (.dat Ty.bool), (loopsN1 (i0 := 0) (by kernel_rfl) ?_), ?_⟩
 ·clear h
  intro m_ s_ K_ h
  obtain ⟨hc0, i0, v0, rfl, hl0, rfl, hv0, h⟩ := (show LP190_0 row m_ s_ K_ from h)
  rw [lvc190_0 row i0 v0 _ K_]
  exact (loopE_step (t := TValue) hl0 h (fun ht0 h => ⟨hl0, ⟨ht0, ⟨(sm_nth h_row i0), (ok_cond h (fun b_9 h => (ok_ret h :)) (fun b_9 h => (loopE_next (t := TValue) (fun m hm => (show LP190_0 row m _ _ from ⟨hc0, hm⟩)) () rfl hl0 ht0 (sm_len h_row) trivial (ok_ret h :))))⟩⟩⟩) (fun h => (h trivial)))
 ·rw [vc190 row K]
  exact (loopE_start (t := TValue) (fun m hm => ⟨trivial, hm⟩) () rfl trivial (ok_then h (fun v0 h hv0 => (ok_ret h :)) (fun q0 h => (ok_ret h :))))
def c153 : Con := ⟨[.dat (Ty.sl TColumn), .dat (Ty.sl TValue)], fun args hp K => args2 (fun a0 a1 => withD (Ty.sl TColumn) a0 fun columns => withD (Ty.sl TValue) a1 fun row => (Sm (Ty.sl TColumn) columns) ∧ (Sm (Ty.sl TValue) row) ∧ K (.data Ty.bool (M.rowFits columns row)) []) args hp, .plain⟩
def cons153 : Cons := [(126, c126), (190, c190)]
@[reducible] def C153 : Ctx := ⟨tab, fun t => memN t cmps, cons153, 54, [], 0, false⟩
theorem consOk153 : ConsOk P C153 := by
 refine consOk_cons (enter_ok (fn := f126) func126 (by kernel_rfl) rfl) con126_ok ?_
 refine consOk_cons (enter_ok (fn := f190) func190 (by kernel_rfl) rfl) con190_ok ?_
 exact consOk_nil
def ann153 : Nat → List Dir
 | 0 => [.keep [0, 1]]
 | 1 => [.keep [0, 1, 20]]
 | 2 => [.keep [4]]
 | 3 => [.keep [0, 1, 5]]
 | 4 => [.keep [0, 1, 5, 24]]
 | 5 => [.keep [0, 1, 5]]
 | 6 => [.keep [0, 1, 5, 53]]
 | 7 => [.keep [4]]
 | 8 => [.keep [4]]
 | 100000 => [.keep []]
 | _ => []
@[reducible] def LP153_0 (columns : (List (TColumn).D)) (row : (List (TValue).D)) (m : Nat) (st_ : St) (K : X → St → Prop) : Prop := (True) ∧ LoopI (fun (i0 : Int) (v0 : Unit) => (⟨[(0, .data (Ty.sl TColumn) columns), (1, .data (Ty.sl TValue) row), (5, .data TInt i0)], []⟩ : St)) (0 : Int) (row.length : Int) (F.spec_RowFits_l0 columns row) (fun v0 : Unit => True) (outD (fun v0 : Unit => True → K (.exit 0) (⟨[], []⟩ : St)) (fun q0 : Unit => K .ret (⟨[(4, .data Ty.bool false)], []⟩ : St))) m st_
def L153 (columns : (List (TColumn).D)) (row : (List (TValue).D)) : Loops := fun id m st_ K => match id with
 | 0 => LP153_0 columns row m st_ K
 | _ => False
theorem vc153 (columns : (List (TColumn).D)) (row : (List (TValue).D)) (K : AV → Hp → Prop) : awp C153 (L153 columns row) ann153 (bodyOf f153) ⟨argEnv 0 [.data (Ty.sl TColumn) columns, .data (Ty.sl TValue) row], []⟩ (outK tab false f153.results.toList (hasBox []) (resK (.dat Ty.bool) K)) =
 ((Sm (Ty.sl TColumn) columns) ∧ cond ((!(M.columnsOk columns)) == false) ((Sm (Ty.sl TValue) row) ∧ cond ((!(M.rowOk row)) == false) (cond (!decide ((row.length : Int) = (columns.length : Int))) (K (.data Ty.bool false) []) ((∃ m_, (True) ∧ LoopI (fun (i0 : Int) (v0 : Unit) => (⟨[(0, .data (Ty.sl TColumn) columns), (1, .data (Ty.sl TValue) row), (5, .data TInt i0)], []⟩ : St)) (0 : Int) (row.length : Int) (F.spec_RowFits_l0 columns row) (fun v0 : Unit => True) (outD (fun v0 : Unit => True → K (.data Ty.bool true) []) (fun q0 : Unit => K (.data Ty.bool false) [])) m_ (⟨[(0, .data (Ty.sl TColumn) columns), (1, .data (Ty.sl TValue) row), (5, .data TInt (0 : Int))], []⟩ : St)))) (K (.data Ty.bool false) [])) (K (.data Ty.bool false) [])) := by kernel_rfl
@[reducible] def S153l0_0 (columns : (List (TColumn).D)) (row : (List (TValue).D))  (i0 : Int) (v0 : Unit) (m : Nat) (K : X → St → Prop) : Prop := (∃ m_, m_ < m ∧ (L153 columns row) 0 m_ (⟨[(0, .data (Ty.sl TColumn) columns), (1, .data (Ty.sl TValue) row), (5, .data TInt (wrap64 (i0 + (1 : Int))))], []⟩ : St) K)
theorem lvc153_0 (columns : (List (TColumn).D)) (row : (List (TValue).D))  (i0 : Int) (v0 : Unit) (m : Nat) (K : X → St → Prop) : awp C153 (L153 columns row) ann153 (loopAt (bodyOf f153) 0) (⟨[(0, .data (Ty.sl TColumn) columns), (1, .data (Ty.sl TValue) row), (5, .data TInt i0)], []⟩ : St) (thenW (fun s' => ∃ m', m' < m ∧ (L153 columns row) 0 m' s' K) (exitN 0 (ann153 (behind 0)) K)) =
 (cond (decide (i0 < (row.length : Int))) ((0 ≤ i0) ∧ (i0 < (row.length : Int)) ∧ (0 ≤ i0) ∧ (i0 < (columns.length : Int)) ∧ cond ((!decide ((nth (t := TValue) row i0).1 = (nth (t := TColumn) columns i0).1)) == true) ((0 ≤ i0) ∧ (i0 < (row.length : Int)) ∧ cond ((!decide ((nth (t := TValue) row i0).1 = (0 : Int))) == false) ((0 ≤ i0) ∧ (i0 < (columns.length : Int)) ∧ cond (!(((nth (t := TColumn) columns i0).2).1)) (K .ret (⟨[(4, .data Ty.bool false)], []⟩ : St)) ((S153l0_0  columns row i0 v0 m K))) (K .ret (⟨[(4, .data Ty.bool false)], []⟩ : St))) ((S153l0_0  columns row i0 v0 m K))) (K (.exit 0) (⟨[], []⟩ : St))) := by kernel_rfl
theorem con153_ok : ConOk P 153 c153 := by
 refine con_okR (fn := f153) (code := bodyOf f153) (tab_ok tab_check cmp_check) consOk153 mixed func153 rfl rfl fun args hp K h0 => ?_
 obtain ⟨a0, a1, rfl, rfl, h1⟩ := args2_elim h0
 obtain ⟨columns, rfl, h2⟩ := withD_elim h1
 obtain ⟨row, rfl, h3⟩ := withD_elim h2
 obtain ⟨h_columns, h_row, hK⟩ := h3
 have h : ok (F.spec_RowFits columns row) (fun r => K (.data Ty.bool r) []) := ok_of_eq (F.spec_RowFits_eq columns row h_columns h_row) hK
 refine ⟨⟨show (2 : Nat) ≤ 54 by decide, show (2 : Nat) ≤ 1000000 by decide⟩, ann153, (L153 columns row), (.dat Ty.bool), (loopsN1 (i0 := 0) (by kernel_rfl) ?_), ?_⟩
 ·clear h
  intro m_ s_ K_ h
  obtain ⟨hc0, i0, v0, rfl, hl0, rfl, hv0, h⟩ := (show LP153_0 columns row m_ s_ K_ from h)
  rw [lvc153_0 columns row i0 v0 _ K_]
  exact (loopI_step h (fun ht0 h => ⟨hl0, ⟨ht0, ⟨hl0, ⟨(ok_guard h).1, have g_18 := (ok_guard h).1; have h := (ok_guard h).2; (ok_cond h (fun b_19 h => ⟨hl0, ⟨ht0, (ok_cond h (fun b_20 h => ⟨hl0, ⟨g_18, (ok_cond h (fun b_21 h => (ok_ret h :)) (fun b_21 h => (loopI_next (fun m hm => (show LP153_0 columns row m _ _ from ⟨hc0, hm⟩)) () rfl hl0 low0 ht0 (sm_len h_row) trivial (ok_ret h :))))⟩⟩) (fun b_20 h => (ok_ret h :)))⟩⟩) (fun b_19 h => (loopI_next (fun m hm => (show LP153_0 columns row m _ _ from ⟨hc0, hm⟩)) () rfl hl0 low0 ht0 (sm_len h_row) trivial (ok_ret h :))))⟩⟩⟩⟩) (fun h => (h trivial)))
 ·rw [vc153 columns row K]
  exact ⟨h_columns, (ok_cond h (fun b_1 h => ⟨h_row, (ok_cond h (fun b_2 h => (ok_cond h (fun b_3 h => (ok_ret h :)) (fun b_3 h => (loopI_start (fun m hm => ⟨trivial, hm⟩) (0 : Int) () rfl (Int.natCast_nonneg 0) trivial (ok_then h (fun v0 h hv0 => (ok_ret h :)) (fun q0 h => (ok_ret h :))))))) (fun b_2 h => (ok_ret h :)))⟩) (fun b_1 h => (ok_ret h :)))⟩
def c119 : Con := ⟨[.dat (Ty.sl TColumn), .dat (Ty.sl (Ty.sl TValue))], fun args hp K => args2 (fun a0 a1 => withD (Ty.sl TColumn) a0 fun columns => withD (Ty.sl (Ty.sl TValue)) a1 fun rows => (Sm (Ty.sl TColumn) columns) ∧ (Sm (Ty.sl (Ty.sl TValue)) rows) ∧ K (.data Ty.bool (M.rowsOk columns rows)) []) args hp, .plain⟩
def cons119 : Cons := [(126, c126), (153, c153)]
@[reducible] def C119 : Ctx := ⟨tab, fun t => memN t cmps, cons119, 21, [], 0, false⟩
theorem consOk119 : ConsOk P C119 := by
 refine consOk_cons (enter_ok (fn := f126) func126 (by kernel_rfl) rfl) con126_ok ?_
 refine consOk_cons (enter_ok (fn := f153) func153 (by kernel_rfl) rfl) con153_ok ?_
 exact consOk_nil
def ann119 : Nat → List Dir
 | 0 => [.keep [0, 1]]
 | 1 => [.keep [0, 1, 5]]
 | 2 => [.keep [0, 1, 5, 9]]
 | 3 => [.keep [0, 1, 5]]
 | 4 => [.keep [0, 1, 5, 18]]
 | 5 => [.keep [4]]
 | 6 => [.keep [4]]
 | 100000 => [.keep [0]]
 | _ => []
@[reducible] def LP119_0 (columns : (List (TColumn).D)) (rows : (List (List (TValue).D))) (m : Nat) (st_ : St) (K : X → St → Prop) : Prop := (True) ∧ LoopE (t := (Ty.sl TValue)) (fun (i0 : Int) (v0 : Unit) => (⟨[(0, .data (Ty.sl TColumn) columns), (1, .data (Ty.sl (Ty.sl TValue)) rows), (5, .data TInt i0)], []⟩ : St)) rows (F.spec_RowsOk_l0 columns rows) (fun v0 : Unit => True) (outD (fun v0 : Unit => True → K (.exit 0) (⟨[(0, .data (Ty.sl TColumn) columns)], []⟩ : St)) (fun q0 : Unit => K .ret (⟨[(4, .data Ty.bool false)], []⟩ : St))) m st_
def L119 (columns : (List (TColumn).D)) (rows : (List (List (TValue).D))) : Loops := fun id m st_ K => match id with
 | 0 => LP119_0 columns rows m st_ K
 | _ => False
theorem vc119 (columns : (List (TColumn).D)) (rows : (List (List (TValue).D))) (K : AV → Hp → Prop) : awp C119 (L119 columns rows) ann119 (bodyOf f119) ⟨argEnv 0 [.data (Ty.sl TColumn) columns, .data (Ty.sl (Ty.sl TValue)) rows], []⟩ (outK tab false f119.results.toList (hasBox []) (resK (.dat Ty.bool) K)) =
 ((∃ m_, (True) ∧ LoopE (t := (Ty.sl TValue)) (fun (i0 : Int) (v0 : Unit) => (⟨[(0, .data (Ty.sl TColumn) columns), (1, .data (Ty.sl (Ty.sl TValue)) rows), (5, .data TInt i0)], []⟩ : St)) rows (F.spec_RowsOk_l0 columns rows) (fun v0 : Unit => True) (outD (fun v0 : Unit => True → (Sm (Ty.sl TColumn) columns) ∧ K (.data Ty.bool (M.columnsOk columns)) []) (fun q0 : Unit => K (.data Ty.bool false) [])) m_ (⟨[(0, .data (Ty.sl TColumn) columns), (1, .data (Ty.sl (Ty.sl TValue)) rows), (5, .data TInt (0 : Int))], []⟩ : St))) := by kernel_rfl
theorem lvc119_0 (columns : (List (TColumn).D)) (rows : (List (List (TValue).D)))  (i0 : Int) (v0 : Unit) (m : Nat) (K : X → St → Prop) : awp C119 (L119 columns rows) ann119 (loopAt (bodyOf f119) 0) (⟨[(0, .data (Ty.sl TColumn) columns), (1, .data (Ty.sl (Ty.sl TValue)) rows), (5, .data TInt i0)], []⟩ : St) (thenW (fun s' => ∃ m', m' < m ∧ (L119 columns rows) 0 m' s' K) (exitN 0 (ann119 (behind 0)) K)) =
 (cond (decide (i0 < (rows.length : Int))) ((0 ≤ i0) ∧ (i0 < (rows.length : Int)) ∧ (Sm (Ty.sl TColumn) columns) ∧ (Sm (Ty.sl TValue) (nth (t := (Ty.sl TValue)) rows i0)) ∧ cond (!(M.rowFits columns (nth (t := (Ty.sl TValue)) rows i0))) (K .ret (⟨[(4, .data Ty.bool false)], []⟩ : St)) ((∃ m_, m_ < m ∧ (L119 columns rows) 0 m_ (⟨[(0, .data (Ty.sl TColumn) columns), (1, .data (Ty.sl (Ty.sl TValue)) rows), (5, .data TInt (wrap64 (i0 + (1 : Int))))], []⟩ : St) K))) (K (.exit 0) (⟨[(0, .data (Ty.sl TColumn) columns)], []⟩ : St))) := by kernel_rfl
theorem con119_ok : ConOk P 119 c119 := by
 refine con_okR (fn := f119) (code := bodyOf f119) (tab_ok tab_check cmp_check) consOk119 mixed func119 rfl rfl fun args hp K h0 => ?_
 obtain ⟨a0, a1, rfl, rfl, h1⟩ := args2_elim h0
 obtain ⟨columns, rfl, h2⟩ := withD_elim h1
 obtain ⟨rows, rfl, h3⟩ := withD_elim h2
 obtain ⟨h_columns, h_rows, hK⟩ := h3
 have h : ok (F.spec_RowsOk columns rows) (fun r => K (.data Ty.bool r) []) := ok_of_eq (F.spec_RowsOk_eq columns rows h_columns h_rows) hK
 refine ⟨⟨show (2 : Nat) ≤ 21 by decide, show (2 : Nat) ≤ 1000000 by decide⟩, ann119, (L119 columns rows), (.dat Ty.bool), (loopsN1 (i0 := 0) (by kernel_rfl) ?_), ?_⟩
 ·clear h
  intro m_ s_ K_ h
  obtain ⟨hc0, i0, v0, rfl, hl0, rfl, hv0, h⟩ := (show LP119_0 columns rows m_ s_ K_ from h)
  rw [lvc119_0 columns rows i0 v0 _ K_]
  exact (loopE_step (t := (Ty.sl TValue)) hl0 h (fun ht0 h => ⟨hl0, ⟨ht0, ⟨h_columns, ⟨(sm_nth h_rows i0), (ok_cond h (fun b_9 h => (ok_ret h :)) (fun b_9 h => (loopE_next (t := (Ty.sl TValue)) (fun m hm => (show LP119_0 columns rows m _ _ from ⟨hc0, hm⟩)) () rfl hl0 ht0 (sm_len h_rows) trivial (ok_ret h :))))⟩⟩⟩⟩) (fun h => (h trivial)))
 ·rw [vc119 columns rows K]
  exact (loopE_start (t := (Ty.sl TValue)) (fun m hm => ⟨trivial, hm⟩) () rfl trivial (ok_then h (fun v0 h hv0 => ⟨h_columns, (ok_ret h :)⟩) (fun q0 h => (ok_ret h :))))
def c82 : Con := ⟨[.dat (Ty.sl TTable)], fun args hp K => args1 (fun a0 => withD (Ty.sl TTable) a0 fun tables => (Sm (Ty.sl TTable) tables) ∧ K (.data Ty.bool (M.tablesOk tables)) []) args hp, .plain⟩
def cons82 : Cons := [(119, c119)]
@[reducible] def C82 : Ctx := ⟨tab, fun t => memN t cmps, cons82, 34, [], 0, false⟩
theorem consOk82 : ConsOk P C82 := by
 refine consOk_cons (enter_ok (fn := f119) func119 (by kernel_rfl) rfl) con119_ok ?_
 exact consOk_nil
def ann82 : Nat → List Dir
 | 0 => [.keep [0]]
 | 1 => [.keep [0, 3]]
 | 2 => [.keep [0, 3, 7]]
 | 3 => [.keep [0, 3]]
 | 4 => [.keep [0, 3, 30]]
 | 5 => [.keep [2]]
 | 6 => [.keep [2]]
 | 100000 => [.keep [0]]
 | _ => []
@[reducible] def LP82_0 (tables : (List (TTable).D)) (m : Nat) (st_ : St) (K : X → St → Prop) : Prop := (True) ∧ LoopE (t := TTable) (fun (i0 : Int) (v0 : Unit) => (⟨[(0, .data (Ty.sl TTable) tables), (3, .data TInt i0)], []⟩ : St)) tables (F.spec_TablesOk_l0 tables) (fun v0 : Unit => True) (outD (fun v0 : Unit => True → K (.exit 0) (⟨[(0, .data (Ty.sl TTable) tables)], []⟩ : St)) (fun q0 : Unit => K .ret (⟨[(2, .data Ty.bool false)], []⟩ : St))) m st_
def L82 (tables : (List (TTable).D)) : Loops := fun id m st_ K => match id with
 | 0 => LP82_0 tables m st_ K
 | _ => False
theorem vc82 (tables : (List (TTable).D)) (K : AV → Hp → Prop) : awp C82 (L82 tables) ann82 (bodyOf f82) ⟨argEnv 0 [.data (Ty.sl TTable) tables], []⟩ (outK tab false f82.results.toList (hasBox []) (resK (.dat Ty.bool) K)) =
 ((∃ m_, (True) ∧ LoopE (t := TTable) (fun (i0 : Int) (v0 : Unit) => (⟨[(0, .data (Ty.sl TTable) tables), (3, .data TInt i0)], []⟩ : St)) tables (F.spec_TablesOk_l0 tables) (fun v0 : Unit => True) (outD (fun v0 : Unit => True → K (.data Ty.bool (decide ((tables.length : Int) ≤ (3 : Int)))) []) (fun q0 : Unit => K (.data Ty.bool false) [])) m_ (⟨[(0, .data (Ty.sl TTable) tables), (3, .data TInt (0 : Int))], []⟩ : St))) := by kernel_rfl
theorem lvc82_0 (tables : (List (TTable).D))  (i0 : Int) (v0 : Unit) (m : Nat) (K : X → St → Prop) : awp C82 (L82 tables) ann82 (loopAt (bodyOf f82) 0) (⟨[(0, .data (Ty.sl TTable) tables), (3, .data TInt i0)], []⟩ : St) (thenW (fun s' => ∃ m', m' < m ∧ (L82 tables) 0 m' s' K) (exitN 0 (ann82 (behind 0)) K)) =
 (cond (decide (i0 < (tables.length : Int))) ((0 ≤ i0) ∧ (i0 < (tables.length : Int)) ∧ cond ((decide ((6 : Int) < ((((nth (t := TTable) tables i0).2).1).length : Int))) == false) ((0 ≤ i0) ∧ (i0 < (tables.length : Int)) ∧ (0 ≤ i0) ∧ (i0 < (tables.length : Int)) ∧ (Sm (Ty.sl TColumn) ((nth (t := TTable) tables i0).1)) ∧ (Sm (Ty.sl (Ty.sl TValue)) (((nth (t := TTable) tables i0).2).1)) ∧ cond (!(M.rowsOk ((nth (t := TTable) tables i0).1) (((nth (t := TTable) tables i0).2).1))) (K .ret (⟨[(2, .data Ty.bool false)], []⟩ : St)) ((∃ m_, m_ < m ∧ (L82 tables) 0 m_ (⟨[(0, .data (Ty.sl TTable) tables), (3, .data TInt (wrap64 (i0 + (1 : Int))))], []⟩ : St) K))) (K .ret (⟨[(2, .data Ty.bool false)], []⟩ : St))) (K (.exit 0) (⟨[(0, .data (Ty.sl TTable) tables)], []⟩ : St))) := by kernel_rfl
theorem con82_ok : ConOk P 82 c82 := by
 refine con_okR (fn := f82) (code := bodyOf f82) (tab_ok tab_check cmp_check) consOk82 mixed func82 rfl rfl fun args hp K h0 => ?_
 obtain ⟨a0, rfl, rfl, h1⟩ := args1_elim h0
 obtain ⟨tables, rfl, h2⟩ := withD_elim h1
 obtain ⟨h_tables, hK⟩ := h2
 have h : ok (F.spec_TablesOk tables) (fun r => K (.data Ty.bool r) []) := ok_of_eq (F.spec_TablesOk_eq tables h_tables) hK
 refine ⟨⟨show (1 : Nat) ≤ 34 by decide, show (1 : Nat) ≤ 1000000 by decide⟩, ann82, (L82 tables), (.dat Ty.bool), (loopsN1 (i0 := 0) (by kernel_rfl) ?_), ?_⟩
 ·clear h
  intro m_ s_ K_ h
  obtain ⟨hc0, i0, v0, rfl, hl0, rfl, hv0, h⟩ := (show LP82_0 tables m_ s_ K_ from h)
  rw [lvc82_0 tables i0 v0 _ K_]
  exact (loopE_step (t := TTable) hl0 h (fun ht0 h => ⟨hl0, ⟨ht0, (ok_cond h (fun b_11 h => ⟨hl0, ⟨ht0, ⟨hl0, ⟨ht0, ⟨(sm_nth h_tables i0).1, ⟨(sm_nth h_tables i0).2.1, (ok_cond h (fun b_12 h => (ok_ret h :)) (fun b_12 h => (loopE_next (t := TTable) (fun m hm => (show LP82_0 tables m _ _ from ⟨hc0, hm⟩)) () rfl hl0 ht0 (sm_len h_tables) trivial (ok_ret h :))))⟩⟩⟩⟩⟩⟩) (fun b_11 h => (ok_ret h :)))⟩⟩) (fun h => (h trivial)))
 ·rw [vc82 tables K]
  exact (loopE_start (t := TTable) (fun m hm => ⟨trivial, hm⟩) () rfl trivial (ok_then h (fun v0 h hv0 => (ok_ret h :)) (fun q0 h => (ok_ret h :))))
def c37 : Con := ⟨[.dat (Ty.sl TTable), .dat (Ty.sl TStep)], fun args hp K => args2 (fun a0 a1 => withD (Ty.sl TTable) a0 fun tables => withD (Ty.sl TStep) a1 fun plan => (Sm (Ty.sl TTable) tables) ∧ (Sm (Ty.sl TStep) plan) ∧ K (.data Ty.bool (M.planOk tables plan)) []) args hp, .plain⟩
def cons37 : Cons := [(62, c62), (63, c63), (82, c82)]
@[reducible] def C37 : Ctx := ⟨tab, fun t => memN t cmps, cons37, 23, [], 0, false⟩
theorem consOk37 : ConsOk P C37 := by
 refine consOk_cons (enter_ok (fn := f62) func62 (by kernel_rfl) rfl) con62_ok ?_
 refine consOk_cons (enter_ok (fn := f63) func63 (by kernel_rfl) rfl) con63_ok ?_
 refine consOk_cons (enter_ok (fn := f82) func82 (by kernel_rfl) rfl) con82_ok ?_
 exact consOk_nil
def ann37 : Nat → List Dir
 | 0 => [.keep [0, 1]]
 | 1 => [.keep [0, 1, 6]]
 | 2 => [.keep [4]]
 | _ => []
def L37 (tables : (List (TTable).D)) (plan : (List (TStep).D)) : Loops := fun id m st_ K => match id with
 | _ => False
theorem vc37 (tables : (List (TTable).D)) (plan : (List (TStep).D)) (K : AV → Hp → Prop) : awp C37 (L37 tables plan) ann37 (bodyOf f37) ⟨argEnv 0 [.data (Ty.sl TTable) tables, .data (Ty.sl TStep) plan], []⟩ (outK tab false f37.results.toList (hasBox []) (resK (.dat Ty.bool) K)) =
 ((Sm (Ty.sl TTable) tables) ∧ (Sm (Ty.sl TStep) plan) ∧ (∀ r_1_2 : (List (List (TColumn).D)) × Bool, r_1_2 = (M.planAll tables plan) → cond (r_1_2.2 == true) ((Sm (Ty.sl TTable) tables) ∧ cond ((M.tablesOk tables) == true) (K (.data Ty.bool (M.inR (plan.length : Int) (1 : Int) (6 : Int))) []) (K (.data Ty.bool false) [])) (K (.data Ty.bool false) []))) := by kernel_rfl
theorem con37_ok : ConOk P 37 c37 := by
 refine con_okR (fn := f37) (code := bodyOf f37) (tab_ok tab_check cmp_check) consOk37 mixed func37 rfl rfl fun args hp K h0 => ?_
 obtain ⟨a0, a1, rfl, rfl, h1⟩ := args2_elim h0
 obtain ⟨tables, rfl, h2⟩ := withD_elim h1
 obtain ⟨plan, rfl, h3⟩ := withD_elim h2
 obtain ⟨h_tables, h_plan, hK⟩ := h3
 have h : ok (F.spec_PlanOk tables plan) (fun r => K (.data Ty.bool r) []) := ok_of_eq (F.spec_PlanOk_eq tables plan h_tables h_plan) hK
 refine ⟨⟨show (2 : Nat) ≤ 23 by decide, show (2 : Nat) ≤ 1000000 by decide⟩, ann37, (L37 tables plan), (.dat Ty.bool), (no_loops (by kernel_rfl)), ?_⟩
 ·rw [vc37 tables plan K]
  exact ⟨h_tables, ⟨h_plan, (fun r_1_2 e_r_1_2 => have h := ok_let h r_1_2 e_r_1_2; (ok_cond h (fun b_1 h => ⟨h_tables, (ok_cond h (fun b_2 h => (ok_ret h :)) (fun b_2 h => (ok_ret h :)))⟩) (fun b_1 h => (ok_ret h :))))⟩⟩
def c38 : Con := ⟨[.dat (Ty.sl TStep)], fun args hp K => args1 (fun a0 => withD (Ty.sl TStep) a0 fun plan => (Sm (Ty.sl TStep) plan) ∧ (∀ r : (List (TStep).D), r = (plan) → K (.own 0 none) [(0, .arr false TStep r)])) args hp, .plain⟩
def cons38 : Cons := []
@[reducible] def C38 : Ctx := ⟨tab, fun t => memN t cmps, cons38, 32, [], 0, false⟩
theorem consOk38 : ConsOk P C38 := by
 exact consOk_nil
def ann38 : Nat → List Dir
 | 0 => [.keep [0]]
 | 1 => [.keep [0, 3]]
 | 2 => [.keep [0, 3, 4]]
 | 3 => [.keep [0, 3, 4, 10]]
 | 4 => [.keep [0, 3, 4]]
 | 5 => [.keep [0, 3, 4, 5]]
 | 6 => [.keep [0, 3, 4, 5]]
 | 7 => [.keep [0, 3, 4, 5]]
 | 8 => [.keep [0, 3, 4]]
 | 9 => [.keep [2]]
 | 100000 => [.keep [3]]
 | _ => []
@[reducible] def LP38_0 (plan : (List (TStep).D)) (m : Nat) (st_ : St) (K : X → St → Prop) : Prop := (True) ∧ LoopE (t := TStep) (fun (i0 : Int) (v0 : (List (TStep).D)) => (⟨[(0, .data (Ty.sl TStep) plan), (3, .own 6 none), (4, .data TInt i0)], [(6, .arr false TStep v0)]⟩ : St)) plan (F.spec_l7Own_l0 plan) (fun v0 : (List (TStep).D) => True) (outD (fun v0 : (List (TStep).D) => True → K (.exit 0) (⟨[(3, .own 6 none)], [(6, .arr false TStep v0)]⟩ : St)) (fun _ => False)) m st_
def L38 (plan : (List (TStep).D)) : Loops := fun id m st_ K => match id with
 | 0 => LP38_0 plan m st_ K
 | _ => False
theorem vc38 (plan : (List (TStep).D)) (K : AV → Hp → Prop) : awp C38 (L38 plan) ann38 (bodyOf f38) ⟨argEnv 0 [.data (Ty.sl TStep) plan], []⟩ (outK tab false f38.results.toList (hasBox []) (resK .raw K)) =
 ((∃ m_, (True) ∧ LoopE (t := TStep) (fun (i0 : Int) (v0 : (List (TStep).D)) => (⟨[(0, .data (Ty.sl TStep) plan), (3, .own 6 none), (4, .data TInt i0)], [(6, .arr false TStep v0)]⟩ : St)) plan (F.spec_l7Own_l0 plan) (fun v0 : (List (TStep).D) => True) (outD (fun v0 : (List (TStep).D) => True → K (.own 0 none) [(0, .arr false TStep v0)]) (fun _ => False)) m_ (⟨[(0, .data (Ty.sl TStep) plan), (3, .own 6 none), (4, .data TInt (0 : Int))], [(6, .arr false TStep [])]⟩ : St))) := by kernel_rfl
theorem lvc38_0 (plan : (List (TStep).D))  (i0 : Int) (v0 : (List (TStep).D)) (m : Nat) (K : X → St → Prop) : awp C38 (L38 plan) ann38 (loopAt (bodyOf f38) 0) (⟨[(0, .data (Ty.sl TStep) plan), (3, .own 6 none), (4, .data TInt i0)], [(6, .arr false TStep v0)]⟩ : St) (thenW (fun s' => ∃ m', m' < m ∧ (L38 plan) 0 m' s' K) (exitN 0 (ann38 (behind 0)) K)) =
 (cond (decide (i0 < (plan.length : Int))) ((0 ≤ i0) ∧ (i0 < (plan.length : Int)) ∧ ((([] : List TPart.D).length + ((((((nth (t := TStep) plan i0).2).2).2).2).1).length) * 48 ≤ lim) ∧ ((([] : List TInt.D).length + (((((((nth (t := TStep) plan i0).2).2).2).2).2).1).length) * 8 ≤ lim) ∧ ((v0.length + [((nth (t := TStep) plan i0).1, (((nth (t := TStep) plan i0).2).1, ((((nth (t := TStep) plan i0).2).2).1, (((((nth (t := TStep) plan i0).2).2).2).1, (([] ++ (((((nth (t := TStep) plan i0).2).2).2).2).1), (([] ++ ((((((nth (t := TStep) plan i0).2).2).2).2).2).1), ()))))))].length) * 80 ≤ lim) ∧ (∃ m_, m_ < m ∧ (L38 plan) 0 m_ (⟨[(0, .data (Ty.sl TStep) plan), (3, .own 6 none), (4, .data TInt (wrap64 (i0 + (1 : Int))))], [(6, .arr false TStep (v0 ++ [((nth (t := TStep) plan i0).1, (((nth (t := TStep) plan i0).2).1, ((((nth (t := TStep) plan i0).2).2).1, (((((nth (t := TStep) plan i0).2).2).2).1, (([] ++ (((((nth (t := TStep) plan i0).2).2).2).2).1), (([] ++ ((((((nth (t := TStep) plan i0).2).2).2).2).2).1), ()))))))]))]⟩ : St) K)) (K (.exit 0) (⟨[(3, .own 6 none)], [(6, .arr false TStep v0)]⟩ : St))) := by kernel_rfl
theorem con38_ok : ConOk P 38 c38 := by
 refine con_okR (fn := f38) (code := bodyOf f38) (tab_ok tab_check cmp_check) consOk38 mixed func38 rfl rfl fun args hp K h0 => ?_
 obtain ⟨a0, rfl, rfl, h1⟩ := args1_elim h0
 obtain ⟨plan, rfl, h2⟩ := withD_elim h1
 obtain ⟨h_plan, hK⟩ := h2
 have h : ok (F.spec_l7Own plan) (fun r => K (.own 0 none) [(0, .arr false TStep r)]) := ok_of_eq (F.spec_l7Own_eq plan h_plan) (hK _ rfl)
 refine ⟨⟨show (1 : Nat) ≤ 32 by decide, show (1 : Nat) ≤ 1000000 by decide⟩, ann38, (L38 plan), .raw, (loopsN1 (i0 := 0) (by kernel_rfl) ?_), ?_⟩
 ·clear h
  intro m_ s_ K_ h
  obtain ⟨hc0, i0, v0, rfl, hl0, rfl, hv0, h⟩ := (show LP38_0 plan m_ s_ K_ from h)
  rw [lvc38_0 plan i0 v0 _ K_]
  exact (loopE_step (t := TStep) hl0 h (fun ht0 h => ⟨hl0, ⟨ht0, ⟨(sm_lim2 (sm_nil TPart) (sm_nth h_plan i0).2.2.2.2.1 rfl), ⟨(sm_lim2 (sm_nil TInt) (sm_nth h_plan i0).2.2.2.2.2.1 rfl), ⟨(ok_guard h).1, have h := (ok_guard h).2; (loopE_next (t := TStep) (fun m hm => (show LP38_0 plan m _ _ from ⟨hc0, hm⟩)) (v0 ++ [((nth (t := TStep) plan i0).1, (((nth (t := TStep) plan i0).2).1, ((((nth (t := TStep) plan i0).2).2).1, (((((nth (t := TStep) plan i0).2).2).2).1, (([] ++ (((((nth (t := TStep) plan i0).2).2).2).2).1), (([] ++ ((((((nth (t := TStep) plan i0).2).2).2).2).2).1), ()))))))]) rfl hl0 ht0 (sm_len h_plan) trivial (ok_ret h :))⟩⟩⟩⟩⟩) (fun h => (h trivial)))
 ·rw [vc38 plan K]
  exact (loopE_start (t := TStep) (fun m hm => ⟨trivial, hm⟩) [] rfl trivial (ok_then h (fun v0 h hv0 => (ok_ret h :)) (fun _ h => h.elim)))
def c10 : Con := ⟨[.dat (Ty.sl TTable), .dat (Ty.sl TStep)], fun args hp K => args2 (fun a0 a1 => withD (Ty.sl TTable) a0 fun tables => withD (Ty.sl TStep) a1 fun plan => (Sm (Ty.sl TTable) tables) ∧ (Sm (Ty.sl TStep) plan) ∧ (∀ r : (List (TStep).D), r = (M.planTidy tables plan) → K (.own 0 none) [(0, .arr false TStep r)])) args hp, .plain⟩
def cons10 : Cons := [(37, c37), (38, c38)]
@[reducible] def C10 : Ctx := ⟨tab, fun t => memN t cmps, cons10, 122, [], 0, false⟩
theorem consOk10 : ConsOk P C10 := by
 refine consOk_cons (enter_ok (fn := f37) func37 (by kernel_rfl) rfl) con37_ok ?_
 refine consOk_cons (enter_ok (fn := f38) func38 (by kernel_rfl) rfl) con38_ok ?_
 exact consOk_nil
def ann10 : Nat → List Dir
 | 0 => [.keep [0, 1]]
 | 1 => [.keep [1, 16]]
 | 2 => [.keep [4]]
 | 3 => [.keep [1, 5]]
 | 4 => [.keep [1, 5]]
 | 5 => [.keep [1, 5, 6]]
 | 6 => [.keep [1, 5, 6, 30]]
 | 7 => [.keep [1, 5, 6]]
 | 8 => [.fixRow 7 TStep, .keep [1, 5, 6, 7]]
 | 9 => [.keep [1, 5, 6, 7, 45]]
 | 10 => [.keep [1, 5, 6, 7]]
 | 11 => [.keep [1, 5, 6]]
 | 12 => [.keep [1, 5, 8]]
 | 13 => [.keep [1, 5, 8, 9]]
 | 14 => [.keep [1, 5, 8, 9, 10]]
 | 15 => [.keep [1, 5, 8, 9, 10, 11]]
 | 16 => [.keep [1, 5, 8, 9, 10, 11, 78]]
 | 17 => [.keep [1, 5, 8, 9, 10, 11]]
 | 18 => [.keep [1, 5, 8, 9, 10, 11, 84]]
 | 19 => [.keep [1, 5, 8, 9, 10, 11, 12]]
 | 20 => [.keep [1, 5, 8, 9, 10, 11, 12, 91]]
 | 21 => [.keep [1, 5, 8, 9, 10, 11, 12]]
 | 22 => [.keep [1, 5, 8, 9, 10, 11, 12, 105]]
 | 23 => [.keep [1, 5, 8, 9, 10, 11, 12]]
 | 24 => [.keep [1, 5, 8, 9, 10, 11, 12]]
 | 25 => [.keep [1, 5, 8, 9, 10, 11]]
 | 26 => [.keep [4]]
 | 100000 => [.keep [1, 5]]
 | 100002 => [.keep [9]]
 | _ => []
@[reducible] def LP10_0 (tables : (List (TTable).D)) (plan : (List (TStep).D)) (m : Nat) (st_ : St) (K : X → St → Prop) : Prop := (True) ∧ LoopW (fun v0 : Int × (List Bool) => (⟨[(1, .data (Ty.sl TStep) plan), (5, .own 20 none), (6, .data TInt v0.1)], [(20, .arr false Ty.bool v0.2)]⟩ : St)) (F.spec_PlanTidy_l0 tables plan) (fun v0 : Int × (List Bool) => True) ((fun e0 : (List Bool) => True → K (.exit 0) (⟨[(1, .data (Ty.sl TStep) plan), (5, .own 20 none)], [(20, .arr false Ty.bool e0)]⟩ : St))) m st_
@[reducible] def LP10_2 (tables : (List (TTable).D)) (plan : (List (TStep).D)) (m : Nat) (st_ : St) (K : X → St → Prop) : Prop := ∃ c2_0 : (List Bool), ∃ c2_1 : (List (TStep).D), (True) ∧ LoopI (fun (i2 : Int) (v2 : (List Int) × (List (TStep).D)) => (⟨[(1, .data (Ty.sl TStep) plan), (5, .own 20 none), (8, .own 71 none), (9, .own 72 none), (10, .own 74 none), (11, .data TInt i2)], [(20, .arr false Ty.bool c2_0), (71, .arr false TInt v2.1), (72, .arr false TStep v2.2), (74, .arr false TStep c2_1)]⟩ : St)) (0 : Int) (plan.length : Int) (F.spec_PlanTidy_l2 tables plan c2_0 c2_1) (fun v2 : (List Int) × (List (TStep).D) => True) (outD (fun v2 : (List Int) × (List (TStep).D) => True → K (.exit 2) (⟨[(9, .own 72 none)], [(72, .arr false TStep v2.2)]⟩ : St)) (fun _ => False)) m st_
def L10 (tables : (List (TTable).D)) (plan : (List (TStep).D)) : Loops := fun id m st_ K => match id with
 | 0 => LP10_0 tables plan m st_ K
 | 2 => LP10_2 tables plan m st_ K
 | _ => False
theorem vc10 (tables : (List (TTable).D)) (plan : (List (TStep).D)) (K : AV → Hp → Prop) : awp C10 (L10 tables plan) ann10 (bodyOf f10) ⟨argEnv 0 [.data (Ty.sl TTable) tables, .data (Ty.sl TStep) plan], []⟩ (outK tab false f10.results.toList (hasBox []) (resK .raw K)) =
 ((Sm (Ty.sl TTable) tables) ∧ (Sm (Ty.sl TStep) plan) ∧ cond (!(M.planOk tables plan)) (K (.own 0 none) [(0, .arr false TStep [])]) (((plan.length : Int) = (plan.length : Int)) ∧ (0 ≤ (plan.length : Int)) ∧ ((plan.length : Int) * 1 ≤ (lim : Int)) ∧ (0 ≤ wrap64 ((plan.length : Int) - (1 : Int))) ∧ (wrap64 ((plan.length : Int) - (1 : Int)) < ((List.replicate (plan.length : Int).toNat false).length : Int)) ∧ (let y_4_5 : (List Bool) := ((List.replicate (plan.length : Int).toNat false).set (wrap64 ((plan.length : Int) - (1 : Int))).toNat true); (∃ m_, (True) ∧ LoopW (fun v0 : Int × (List Bool) => (⟨[(1, .data (Ty.sl TStep) plan), (5, .own 20 none), (6, .data TInt v0.1)], [(20, .arr false Ty.bool v0.2)]⟩ : St)) (F.spec_PlanTidy_l0 tables plan) (fun v0 : Int × (List Bool) => True) ((fun e0 : (List Bool) => True → ((plan.length : Int) = (plan.length : Int)) ∧ (0 ≤ (plan.length : Int)) ∧ ((plan.length : Int) * 8 ≤ (lim : Int)) ∧ (Sm (Ty.sl TStep) plan) ∧ (∀ r_14_1 : (List (TStep).D), r_14_1 = (plan) → (∃ m_, ∃ c2_0 : (List Bool), ∃ c2_1 : (List (TStep).D), (True) ∧ LoopI (fun (i2 : Int) (v2 : (List Int) × (List (TStep).D)) => (⟨[(1, .data (Ty.sl TStep) plan), (5, .own 20 none), (8, .own 71 none), (9, .own 72 none), (10, .own 74 none), (11, .data TInt i2)], [(20, .arr false Ty.bool c2_0), (71, .arr false TInt v2.1), (72, .arr false TStep v2.2), (74, .arr false TStep c2_1)]⟩ : St)) (0 : Int) (plan.length : Int) (F.spec_PlanTidy_l2 tables plan c2_0 c2_1) (fun v2 : (List Int) × (List (TStep).D) => True) (outD (fun v2 : (List Int) × (List (TStep).D) => True → K (.own 0 none) [(0, .arr false TStep v2.2)]) (fun _ => False)) m_ (⟨[(1, .data (Ty.sl TStep) plan), (5, .own 20 none), (8, .own 71 none), (9, .own 72 none), (10, .own 74 none), (11, .data TInt (0 : Int))], [(20, .arr false Ty.bool e0), (71, .arr false TInt (List.replicate (plan.length : Int).toNat (0 : Int))), (72, .arr false TStep []), (74, .arr false TStep r_14_1)]⟩ : St))))) m_ (⟨[(1, .data (Ty.sl TStep) plan), (5, .own 20 none), (6, .data TInt (wrap64 ((plan.length : Int) - (1 : Int))))], [(20, .arr false Ty.bool y_4_5)]⟩ : St))))) := by kernel_rfl
@[reducible] def S10l0_0 (tables : (List (TTable).D)) (plan : (List (TStep).D))  (v0 : Int × (List Bool)) (m : Nat) (K : X → St → Prop) : Prop := (0 ≤ (((nth (t := TStep) plan v0.1).2).2).1) ∧ ((((nth (t := TStep) plan v0.1).2).2).1 < ((v0.2.set (((nth (t := TStep) plan v0.1).2).1).toNat true).length : Int)) ∧ (let y_11_19 : (List Bool) := ((v0.2.set (((nth (t := TStep) plan v0.1).2).1).toNat true).set ((((nth (t := TStep) plan v0.1).2).2).1).toNat true); (∃ m_, m_ < m ∧ (L10 tables plan) 0 m_ (⟨[(1, .data (Ty.sl TStep) plan), (5, .own 20 none), (6, .data TInt (wrap64 (v0.1 - (1 : Int))))], [(20, .arr false Ty.bool y_11_19)]⟩ : St) K))
@[reducible] def S10l0_1 (tables : (List (TTable).D)) (plan : (List (TStep).D))  (v0 : Int × (List Bool)) (m : Nat) (K : X → St → Prop) : Prop := (∃ m_, m_ < m ∧ (L10 tables plan) 0 m_ (⟨[(1, .data (Ty.sl TStep) plan), (5, .own 20 none), (6, .data TInt (wrap64 (v0.1 - (1 : Int))))], [(20, .arr false Ty.bool v0.2)]⟩ : St) K)
theorem lvc10_0 (tables : (List (TTable).D)) (plan : (List (TStep).D))  (v0 : Int × (List Bool)) (m : Nat) (K : X → St → Prop) : awp C10 (L10 tables plan) ann10 (loopAt (bodyOf f10) 0) (⟨[(1, .data (Ty.sl TStep) plan), (5, .own 20 none), (6, .data TInt v0.1)], [(20, .arr false Ty.bool v0.2)]⟩ : St) (thenW (fun s' => ∃ m', m' < m ∧ (L10 tables plan) 0 m' s' K) (exitN 0 (ann10 (behind 0)) K)) =
 (cond (decide ((0 : Int) ≤ v0.1)) ((0 ≤ v0.1) ∧ (v0.1 < (plan.length : Int)) ∧ (0 ≤ v0.1) ∧ (v0.1 < (v0.2.length : Int)) ∧ cond ((nth (t := Ty.bool) v0.2 v0.1) == true) (cond (!decide ((nth (t := TStep) plan v0.1).1 = (1 : Int))) ((0 ≤ ((nth (t := TStep) plan v0.1).2).1) ∧ (((nth (t := TStep) plan v0.1).2).1 < (v0.2.length : Int)) ∧ (0 ≤ (((nth (t := TStep) plan v0.1).2).2).1) ∧ ((((nth (t := TStep) plan v0.1).2).2).1 < ((v0.2.set (((nth (t := TStep) plan v0.1).2).1).toNat true).length : Int)) ∧ cond ((nth (t := Ty.bool) (v0.2.set (((nth (t := TStep) plan v0.1).2).1).toNat true) ((((nth (t := TStep) plan v0.1).2).2).1)) == false) (cond ((decide ((nth (t := TStep) plan v0.1).1 = (4 : Int))) == false) ((0 ≤ (((nth (t := TStep) plan v0.1).2).2).1) ∧ ((((nth (t := TStep) plan v0.1).2).2).1 < ((v0.2.set (((nth (t := TStep) plan v0.1).2).1).toNat true).length : Int)) ∧ (let y_11_19 : (List Bool) := ((v0.2.set (((nth (t := TStep) plan v0.1).2).1).toNat true).set ((((nth (t := TStep) plan v0.1).2).2).1).toNat (decide ((nth (t := TStep) plan v0.1).1 = (5 : Int)))); (∃ m_, m_ < m ∧ (L10 tables plan) 0 m_ (⟨[(1, .data (Ty.sl TStep) plan), (5, .own 20 none), (6, .data TInt (wrap64 (v0.1 - (1 : Int))))], [(20, .arr false Ty.bool y_11_19)]⟩ : St) K))) ((S10l0_0  tables plan v0 m K))) ((S10l0_0  tables plan v0 m K))) ((S10l0_1  tables plan v0 m K))) ((S10l0_1  tables plan v0 m K))) (K (.exit 0) (⟨[(1, .data (Ty.sl TStep) plan), (5, .own 20 none)], [(20, .arr false Ty.bool v0.2)]⟩ : St))) := by kernel_rfl
@[reducible] def S10l2_0 (tables : (List (TTable).D)) (plan : (List (TStep).D)) (c2_0 : (List Bool)) (c2_1 : (List (TStep).D)) (i2 : Int) (v2 : (List Int) × (List (TStep).D)) (m : Nat) (K : X → St → Prop) : Prop := (0 ≤ (((nth (t := TStep) c2_1 i2).2).2).1) ∧ ((((nth (t := TStep) c2_1 i2).2).2).1 < (v2.1.length : Int)) ∧ (0 ≤ i2) ∧ (i2 < (v2.1.length : Int)) ∧ ((v2.2.length + [((nth (t := TStep) c2_1 i2).1, ((nth (t := TInt) v2.1 (((nth (t := TStep) c2_1 i2).2).1)), ((nth (t := TInt) v2.1 ((((nth (t := TStep) c2_1 i2).2).2).1)), (((nth (t := TStep) c2_1 i2).2).2).2)))].length) * 80 ≤ lim) ∧ (∃ m_, m_ < m ∧ (L10 tables plan) 2 m_ (⟨[(1, .data (Ty.sl TStep) plan), (5, .own 20 none), (8, .own 71 none), (9, .own 72 none), (10, .own 74 none), (11, .data TInt (wrap64 (i2 + (1 : Int))))], [(20, .arr false Ty.bool c2_0), (71, .arr false TInt (v2.1.set i2.toNat (v2.2.length : Int))), (72, .arr false TStep (v2.2 ++ [((nth (t := TStep) c2_1 i2).1, ((nth (t := TInt) v2.1 (((nth (t := TStep) c2_1 i2).2).1)), ((nth (t := TInt) v2.1 ((((nth (t := TStep) c2_1 i2).2).2).1)), (((nth (t := TStep) c2_1 i2).2).2).2)))])), (74, .arr false TStep c2_1)]⟩ : St) K)
@[reducible] def S10l2_1 (tables : (List (TTable).D)) (plan : (List (TStep).D)) (c2_0 : (List Bool)) (c2_1 : (List (TStep).D)) (i2 : Int) (v2 : (List Int) × (List (TStep).D)) (m : Nat) (K : X → St → Prop) : Prop := (0 ≤ (((nth (t := TStep) c2_1 i2).2).2).1) ∧ ((((nth (t := TStep) c2_1 i2).2).2).1 < (v2.1.length : Int)) ∧ (0 ≤ i2) ∧ (i2 < (v2.1.length : Int)) ∧ ((v2.2.length + [((nth (t := TStep) c2_1 i2).1, (((nth (t := TStep) c2_1 i2).2).1, ((nth (t := TInt) v2.1 ((((nth (t := TStep) c2_1 i2).2).2).1)), (((nth (t := TStep) c2_1 i2).2).2).2)))].length) * 80 ≤ lim) ∧ (∃ m_, m_ < m ∧ (L10 tables plan) 2 m_ (⟨[(1, .data (Ty.sl TStep) plan), (5, .own 20 none), (8, .own 71 none), (9, .own 72 none), (10, .own 74 none), (11, .data TInt (wrap64 (i2 + (1 : Int))))], [(20, .arr false Ty.bool c2_0), (71, .arr false TInt (v2.1.set i2.toNat (v2.2.length : Int))), (72, .arr false TStep (v2.2 ++ [((nth (t := TStep) c2_1 i2).1, (((nth (t := TStep) c2_1 i2).2).1, ((nth (t := TInt) v2.1 ((((nth (t := TStep) c2_1 i2).2).2).1)), (((nth (t := TStep) c2_1 i2).2).2).2)))])), (74, .arr false TStep c2_1)]⟩ : St) K)
theorem lvc10_1 (tables : (List (TTable).D)) (plan : (List (TStep).D)) (c2_0 : (List Bool)) (c2_1 : (List (TStep).D)) (i2 : Int) (v2 : (List Int) × (List (TStep).D)) (m : Nat) (K : X → St → Prop) : awp C10 (L10 tables plan) ann10 (loopAt (bodyOf f10) 1) (⟨[(1, .data (Ty.sl TStep) plan), (5, .own 20 none), (8, .own 71 none), (9, .own 72 none), (10, .own 74 none), (11, .data TInt i2)], [(20, .arr false Ty.bool c2_0), (71, .arr false TInt v2.1), (72, .arr false TStep v2.2), (74, .arr false TStep c2_1)]⟩ : St) (thenW (fun s' => ∃ m', m' < m ∧ (L10 tables plan) 2 m' s' K) (exitN 2 (ann10 (behind 2)) K)) =
 (cond (decide (i2 < (plan.length : Int))) ((0 ≤ i2) ∧ (i2 < (c2_0.length : Int)) ∧ cond (nth (t := Ty.bool) c2_0 i2) ((0 ≤ i2) ∧ (i2 < (c2_1.length : Int)) ∧ cond (!decide ((nth (t := TStep) c2_1 i2).1 = (1 : Int))) ((0 ≤ ((nth (t := TStep) c2_1 i2).2).1) ∧ (((nth (t := TStep) c2_1 i2).2).1 < (v2.1.length : Int)) ∧ cond ((decide ((nth (t := TStep) c2_1 i2).1 = (4 : Int))) == false) (cond (decide ((nth (t := TStep) c2_1 i2).1 = (5 : Int))) ((S10l2_0  tables plan c2_0 c2_1 i2 v2 m K)) ((0 ≤ i2) ∧ (i2 < (v2.1.length : Int)) ∧ ((v2.2.length + [((nth (t := TStep) c2_1 i2).1, ((nth (t := TInt) v2.1 (((nth (t := TStep) c2_1 i2).2).1)), ((nth (t := TStep) c2_1 i2).2).2))].length) * 80 ≤ lim) ∧ (∃ m_, m_ < m ∧ (L10 tables plan) 2 m_ (⟨[(1, .data (Ty.sl TStep) plan), (5, .own 20 none), (8, .own 71 none), (9, .own 72 none), (10, .own 74 none), (11, .data TInt (wrap64 (i2 + (1 : Int))))], [(20, .arr false Ty.bool c2_0), (71, .arr false TInt (v2.1.set i2.toNat (v2.2.length : Int))), (72, .arr false TStep (v2.2 ++ [((nth (t := TStep) c2_1 i2).1, ((nth (t := TInt) v2.1 (((nth (t := TStep) c2_1 i2).2).1)), ((nth (t := TStep) c2_1 i2).2).2))])), (74, .arr false TStep c2_1)]⟩ : St) K))) ((S10l2_0  tables plan c2_0 c2_1 i2 v2 m K))) (cond ((decide ((nth (t := TStep) c2_1 i2).1 = (4 : Int))) == false) (cond (decide ((nth (t := TStep) c2_1 i2).1 = (5 : Int))) ((S10l2_1  tables plan c2_0 c2_1 i2 v2 m K)) ((0 ≤ i2) ∧ (i2 < (v2.1.length : Int)) ∧ ((v2.2.length + [(nth (t := TStep) c2_1 i2)].length) * 80 ≤ lim) ∧ (∃ m_, m_ < m ∧ (L10 tables plan) 2 m_ (⟨[(1, .data (Ty.sl TStep) plan), (5, .own 20 none), (8, .own 71 none), (9, .own 72 none), (10, .own 74 none), (11, .data TInt (wrap64 (i2 + (1 : Int))))], [(20, .arr false Ty.bool c2_0), (71, .arr false TInt (v2.1.set i2.toNat (v2.2.length : Int))), (72, .arr false TStep (v2.2 ++ [(nth (t := TStep) c2_1 i2)])), (74, .arr false TStep c2_1)]⟩ : St) K))) ((S10l2_1  tables plan c2_0 c2_1 i2 v2 m K)))) ((∃ m_, m_ < m ∧ (L10 tables plan) 2 m_ (⟨[(1, .data (Ty.sl TStep) plan), (5, .own 20 none), (8, .own 71 none), (9, .own 72 none), (10, .own 74 none), (11, .data TInt (wrap64 (i2 + (1 : Int))))], [(20, .arr false Ty.bool c2_0), (71, .arr false TInt v2.1), (72, .arr false TStep v2.2), (74, .arr false TStep c2_1)]⟩ : St) K))) (K (.exit 2) (⟨[(9, .own 72 none)], [(72, .arr false TStep v2.2)]⟩ : St))) := by kernel_rfl
theorem con10_ok : ConOk P 10 c10 := by
 refine con_okR (fn := f10) (code := bodyOf f10) (tab_ok tab_check cmp_check) consOk10 mixed func10 rfl rfl fun args hp K h0 => ?_
 obtain ⟨a0, a1, rfl, rfl, h1⟩ := args2_elim h0
 obtain ⟨tables, rfl, h2⟩ := withD_elim h1
 obtain ⟨plan, rfl, h3⟩ := withD_elim h2
 obtain ⟨h_tables, h_plan, hK⟩ := h3
 have h : ok (F.spec_PlanTidy tables plan) (fun r => K (.own 0 none) [(0, .arr false TStep r)]) := ok_of_eq (F.spec_PlanTidy_eq tables plan h_tables h_plan) (hK _ rfl)
 refine ⟨⟨show (2 : Nat) ≤ 122 by decide, show (2 : Nat) ≤ 1000000 by decide⟩, ann10, (L10 tables plan), .raw, (loopsN2 (i0 := 0) (i1 := 2) (by kernel_rfl) ?_ ?_), ?_⟩
 ·clear h
  intro m_ s_ K_ h
  obtain ⟨hc0, v0, rfl, hv0, h⟩ := (show LP10_0 tables plan m_ s_ K_ from h)
  rw [lvc10_0 tables plan v0 _ K_]
  exact (loopW_step h (fun m1 hm0 h => (ok_cond h (fun b_4 h => ⟨(ok_guard h).1, have g_5 := (ok_guard h).1; have h := (ok_guard h).2; ⟨(ok_guard h).1, have h := (ok_guard h).2; ⟨g_5, ⟨(ok_guard h).1, have h := (ok_guard h).2; (ok_cond h (fun b_8 h => (ok_cond h (fun b_9 h => ⟨(ok_guard h).1, have h := (ok_guard h).2; ⟨(ok_guard h).1, have h := (ok_guard h).2; ⟨(ok_guard h).1, have g_12 := (ok_guard h).1; have h := (ok_guard h).2; ⟨(ok_guard h).1, have g_13 := (ok_guard h).1; have h := (ok_guard h).2; (ok_cond h (fun b_14 h => (ok_cond h (fun b_15 h => ⟨g_12, ⟨g_13, (let y_11_19 : (List Bool) := ((v0.2.set (((nth (t := TStep) plan v0.1).2).1).toNat true).set ((((nth (t := TStep) plan v0.1).2).2).1).toNat (decide ((nth (t := TStep) plan v0.1).1 = (5 : Int)))); have h := ok_let h y_11_19 rfl; (loopW_next (fun m hm => (show LP10_0 tables plan m _ _ from ⟨hc0, hm⟩)) hm0 (wrap64 (v0.1 - (1 : Int)), y_11_19) rfl trivial (ok_ret h :)))⟩⟩) (fun b_15 h => ⟨g_12, ⟨g_13, (let y_11_19 : (List Bool) := ((v0.2.set (((nth (t := TStep) plan v0.1).2).1).toNat true).set ((((nth (t := TStep) plan v0.1).2).2).1).toNat true); have h := ok_let h y_11_19 rfl; (loopW_next (fun m hm => (show LP10_0 tables plan m _ _ from ⟨hc0, hm⟩)) hm0 (wrap64 (v0.1 - (1 : Int)), y_11_19) rfl trivial (ok_ret h :)))⟩⟩))) (fun b_14 h => ⟨g_12, ⟨g_13, (let y_11_19 : (List Bool) := ((v0.2.set (((nth (t := TStep) plan v0.1).2).1).toNat true).set ((((nth (t := TStep) plan v0.1).2).2).1).toNat true); have h := ok_let h y_11_19 rfl; (loopW_next (fun m hm => (show LP10_0 tables plan m _ _ from ⟨hc0, hm⟩)) hm0 (wrap64 (v0.1 - (1 : Int)), y_11_19) rfl trivial (ok_ret h :)))⟩⟩))⟩⟩⟩⟩) (fun b_9 h => (loopW_next (fun m hm => (show LP10_0 tables plan m _ _ from ⟨hc0, hm⟩)) hm0 (wrap64 (v0.1 - (1 : Int)), v0.2) rfl trivial (ok_ret h :))))) (fun b_8 h => (loopW_next (fun m hm => (show LP10_0 tables plan m _ _ from ⟨hc0, hm⟩)) hm0 (wrap64 (v0.1 - (1 : Int)), v0.2) rfl trivial (ok_ret h :))))⟩⟩⟩⟩) (fun b_4 h => ((ok_ret h :) trivial)))))
 ·clear h
  intro m_ s_ K_ h
  obtain ⟨c2_0, c2_1, hc2, i2, v2, rfl, hl2, rfl, hv2, h⟩ := (show LP10_2 tables plan m_ s_ K_ from h)
  rw [lvc10_1 tables plan c2_0 c2_1 i2 v2 _ K_]
  exact (loopI_step h (fun ht2 h => ⟨hl2, ⟨(ok_guard h).1, have h := (ok_guard h).2; (ok_cond h (fun b_50 h => ⟨hl2, ⟨(ok_guard h).1, have h := (ok_guard h).2; (ok_cond h (fun b_52 h => ⟨(ok_guard h).1, have h := (ok_guard h).2; ⟨(ok_guard h).1, have h := (ok_guard h).2; (ok_cond h (fun b_55 h => (ok_cond h (fun b_56 h => ⟨(ok_guard h).1, have h := (ok_guard h).2; ⟨(ok_guard h).1, have h := (ok_guard h).2; ⟨hl2, ⟨(ok_guard h).1, have h := (ok_guard h).2; ⟨(ok_guard h).1, have h := (ok_guard h).2; (loopI_next (fun m hm => (show LP10_2 tables plan m _ _ from ⟨c2_0, c2_1, hc2, hm⟩)) ((v2.1.set i2.toNat (v2.2.length : Int)), (v2.2 ++ [((nth (t := TStep) c2_1 i2).1, ((nth (t := TInt) v2.1 (((nth (t := TStep) c2_1 i2).2).1)), ((nth (t := TInt) v2.1 ((((nth (t := TStep) c2_1 i2).2).2).1)), (((nth (t := TStep) c2_1 i2).2).2).2)))])) rfl hl2 low0 ht2 (sm_len h_plan) trivial (ok_ret h :))⟩⟩⟩⟩⟩) (fun b_56 h => ⟨hl2, ⟨(ok_guard h).1, have h := (ok_guard h).2; ⟨(ok_guard h).1, have h := (ok_guard h).2; (loopI_next (fun m hm => (show LP10_2 tables plan m _ _ from ⟨c2_0, c2_1, hc2, hm⟩)) ((v2.1.set i2.toNat (v2.2.length : Int)), (v2.2 ++ [((nth (t := TStep) c2_1 i2).1, ((nth (t := TInt) v2.1 (((nth (t := TStep) c2_1 i2).2).1)), ((nth (t := TStep) c2_1 i2).2).2))])) rfl hl2 low0 ht2 (sm_len h_plan) trivial (ok_ret h :))⟩⟩⟩))) (fun b_55 h => ⟨(ok_guard h).1, have h := (ok_guard h).2; ⟨(ok_guard h).1, have h := (ok_guard h).2; ⟨hl2, ⟨(ok_guard h).1, have h := (ok_guard h).2; ⟨(ok_guard h).1, have h := (ok_guard h).2; (loopI_next (fun m hm => (show LP10_2 tables plan m _ _ from ⟨c2_0, c2_1, hc2, hm⟩)) ((v2.1.set i2.toNat (v2.2.length : Int)), (v2.2 ++ [((nth (t := TStep) c2_1 i2).1, ((nth (t := TInt) v2.1 (((nth (t := TStep) c2_1 i2).2).1)), ((nth (t := TInt) v2.1 ((((nth (t := TStep) c2_1 i2).2).2).1)), (((nth (t := TStep) c2_1 i2).2).2).2)))])) rfl hl2 low0 ht2 (sm_len h_plan) trivial (ok_ret h :))⟩⟩⟩⟩⟩))⟩⟩) (fun b_52 h => (cond_t (ugt (dec_ne (bnf b_52) (by decide))) (cond_f (dec_ne (bnf b_52) (by decide)) ⟨hl2, ⟨(ok_guard h).1, have h := (ok_guard h).2; ⟨(ok_guard h).1, have h := (ok_guard h).2; (loopI_next (fun m hm => (show LP10_2 tables plan m _ _ from ⟨c2_0, c2_1, hc2, hm⟩)) ((v2.1.set i2.toNat (v2.2.length : Int)), (v2.2 ++ [(nth (t := TStep) c2_1 i2)])) rfl hl2 low0 ht2 (sm_len h_plan) trivial (ok_ret h :))⟩⟩⟩))))⟩⟩) (fun b_50 h => (loopI_next (fun m hm => (show LP10_2 tables plan m _ _ from ⟨c2_0, c2_1, hc2, hm⟩)) (v2.1, v2.2) rfl hl2 low0 ht2 (sm_len h_plan) trivial (ok_ret h :))))⟩⟩) (fun h => (h trivial)))
 ·rw [vc10 tables plan K]
  exact ⟨h_tables, ⟨h_plan, (ok_cond h (fun b_1 h => (ok_ret h :)) (fun b_1 h => ⟨rfl, ⟨(Int.natCast_nonneg _), ⟨(sm_limI h_plan rfl), ⟨(ok_guard h).1, have h := (ok_guard h).2; ⟨(ok_guard h).1, have h := (ok_guard h).2; (let y_4_5 : (List Bool) := ((List.replicate (plan.length : Int).toNat false).set (wrap64 ((plan.length : Int) - (1 : Int))).toNat true); have h := ok_let h y_4_5 rfl; (loopW_start (fun m hm => ⟨trivial, hm⟩) (wrap64 ((plan.length : Int) - (1 : Int)), y_4_5) rfl trivial (ok_bind h (fun e0 h hv0 => ⟨rfl, ⟨(Int.natCast_nonneg _), ⟨(sm_limI h_plan rfl), ⟨h_plan, (fun r_14_1 e_r_14_1 => have h := ok_let h r_14_1 e_r_14_1; (loopI_start (fun m hm => ⟨e0, r_14_1, trivial, hm⟩) (0 : Int) ((List.replicate (plan.length : Int).toNat (0 : Int)), []) rfl (Int.natCast_nonneg 0) trivial (ok_then h (fun v2 h hv2 => (ok_ret h :)) (fun _ h => h.elim))))⟩⟩⟩⟩))))⟩⟩⟩⟩⟩))⟩⟩
def c120 : Con := ⟨[.dat TColumn], fun args hp K => args1 (fun a0 => withD TColumn a0 fun x => (∀ r : (TColumn).D, r = (x) → K (.data TColumn r) [])) args hp, .plain⟩
def cons120 : Cons := []
@[reducible] def C120 : Ctx := ⟨tab, fun t => memN t cmps, cons120, 11, [], 0, false⟩
theorem consOk120 : ConsOk P C120 := by
 exact consOk_nil
def ann120 : Nat → List Dir
 | 0 => [.fixRow 1 TColumn, .keep [1, 2]]
 | 1 => [.keep [1, 2, 3]]
 | 2 => [.keep [1, 2, 3]]
 | 3 => [.keep [2, 3]]
 | 4 => [.keep [2]]
 | _ => []
def L120 (x : (TColumn).D) : Loops := fun id m st_ K => match id with
 | _ => False
theorem vc120 (x : (TColumn).D) (K : AV → Hp → Prop) : awp C120 (L120 x) ann120 (bodyOf f120) ⟨argEnv 0 [.data TColumn x], []⟩ (outK tab false f120.results.toList (hasBox []) (resK (.dat TColumn) K)) =
 (K (.data TColumn x) []) := by kernel_rfl
theorem con120_ok : ConOk P 120 c120 := by
 refine con_okR (fn := f120) (code := bodyOf f120) (tab_ok tab_check cmp_check) consOk120 mixed func120 rfl rfl fun args hp K h0 => ?_
 obtain ⟨a0, rfl, rfl, h1⟩ := args1_elim h0
 obtain ⟨x, rfl, h2⟩ := withD_elim h1
 have hK := h2
 have h : ok (F.laws_toColumn x) (fun r => K (.data TColumn r) []) := ok_of_eq (F.laws_toColumn_eq x) (hK _ rfl)
 refine ⟨⟨show (1 : Nat) ≤ 11 by decide, show (1 : Nat) ≤ 1000000 by decide⟩, ann120, (L120 x), (.dat TColumn), (no_loops (by kernel_rfl)), ?_⟩
 ·rw [vc120 x K]
  exact (ok_ret h :)
def c83 : Con := ⟨[.dat (Ty.sl TColumn)], fun args hp K => args1 (fun a0 => withD (Ty.sl TColumn) a0 fun x => (Sm (Ty.sl TColumn) x) ∧ (∀ r : (List (TColumn).D), r = (x) → K (.own 0 none) [(0, .arr false TColumn r)])) args hp, .plain⟩
def cons83 : Cons := [(120, c120)]
@[reducible] def C83 : Ctx := ⟨tab, fun t => memN t cmps, cons83, 23, [], 0, false⟩
theorem consOk83 : ConsOk P C83 := by
 refine consOk_cons (enter_ok (fn := f120) func120 (by kernel_rfl) rfl) con120_ok ?_
 exact consOk_nil
def ann83 : Nat → List Dir
 | 0 => [.keep [0]]
 | 1 => [.keep [0, 3]]
 | 2 => [.keep [0, 3, 4]]
 | 3 => [.keep [0, 3, 4, 11]]
 | 4 => [.keep [0, 3, 4]]
 | 5 => [.keep [0, 3, 4]]
 | 6 => [.keep [2]]
 | 100000 => [.keep [3]]
 | _ => []
@[reducible] def LP83_0 (x : (List (TColumn).D)) (m : Nat) (st_ : St) (K : X → St → Prop) : Prop := (True) ∧ LoopI (fun (i0 : Int) (v0 : (List (TColumn).D)) => (⟨[(0, .data (Ty.sl TColumn) x), (3, .own 7 none), (4, .data TInt i0)], [(7, .arr false TColumn v0)]⟩ : St)) (0 : Int) (x.length : Int) (F.laws_toColumnS_l0 x) (fun v0 : (List (TColumn).D) => True) (outD (fun v0 : (List (TColumn).D) => True → K (.exit 0) (⟨[(3, .own 7 none)], [(7, .arr false TColumn v0)]⟩ : St)) (fun _ => False)) m st_
def L83 (x : (List (TColumn).D)) : Loops := fun id m st_ K => match id with
 | 0 => LP83_0 x m st_ K
 | _ => False
theorem vc83 (x : (List (TColumn).D)) (K : AV → Hp → Prop) : awp C83 (L83 x) ann83 (bodyOf f83) ⟨argEnv 0 [.data (Ty.sl TColumn) x], []⟩ (outK tab false f83.results.toList (hasBox []) (resK .raw K)) =
 (((x.length : Int) = (x.length : Int)) ∧ (0 ≤ (x.length : Int)) ∧ ((x.length : Int) * 16 ≤ (lim : Int)) ∧ (∃ m_, (True) ∧ LoopI (fun (i0 : Int) (v0 : (List (TColumn).D)) => (⟨[(0, .data (Ty.sl TColumn) x), (3, .own 7 none), (4, .data TInt i0)], [(7, .arr false TColumn v0)]⟩ : St)) (0 : Int) (x.length : Int) (F.laws_toColumnS_l0 x) (fun v0 : (List (TColumn).D) => True) (outD (fun v0 : (List (TColumn).D) => True → K (.own 0 none) [(0, .arr false TColumn v0)]) (fun _ => False)) m_ (⟨[(0, .data (Ty.sl TColumn) x), (3, .own 7 none), (4, .data TInt (0 : Int))], [(7, .arr false TColumn (List.replicate (x.length : Int).toNat ((0 : Int), (false, ()))))]⟩ : St))) := by kernel_rfl
theorem lvc83_0 (x : (List (TColumn).D))  (i0 : Int) (v0 : (List (TColumn).D)) (m : Nat) (K : X → St → Prop) : awp C83 (L83 x) ann83 (loopAt (bodyOf f83) 0) (⟨[(0, .data (Ty.sl TColumn) x), (3, .own 7 none), (4, .data TInt i0)], [(7, .arr false TColumn v0)]⟩ : St) (thenW (fun s' => ∃ m', m' < m ∧ (L83 x) 0 m' s' K) (exitN 0 (ann83 (behind 0)) K)) =
 (cond (decide (i0 < (x.length : Int))) ((0 ≤ i0) ∧ (i0 < (x.length : Int)) ∧ (∀ r_5_6 : (TColumn).D, r_5_6 = ((nth (t := TColumn) x i0)) → (0 ≤ i0) ∧ (i0 < (v0.length : Int)) ∧ (∃ m_, m_ < m ∧ (L83 x) 0 m_ (⟨[(0, .data (Ty.sl TColumn) x), (3, .own 7 none), (4, .data TInt (wrap64 (i0 + (1 : Int))))], [(7, .arr false TColumn (v0.set i0.toNat r_5_6))]⟩ : St) K))) (K (.exit 0) (⟨[(3, .own 7 none)], [(7, .arr false TColumn v0)]⟩ : St))) := by kernel_rfl
theorem con83_ok : ConOk P 83 c83 := by
 refine con_okR (fn := f83) (code := bodyOf f83) (tab_ok tab_check cmp_check) consOk83 mixed func83 rfl rfl fun args hp K h0 => ?_
 obtain ⟨a0, rfl, rfl, h1⟩ := args1_elim h0
 obtain ⟨x, rfl, h2⟩ := withD_elim h1
 obtain ⟨h_x, hK⟩ := h2
 have h : ok (F.laws_toColumnS x) (fun r => K (.own 0 none) [(0, .arr false TColumn r)]) := ok_of_eq (F.laws_toColumnS_eq x h_x) (hK _ rfl)
 refine ⟨⟨show (1 : Nat) ≤ 23 by decide, show (1 : Nat) ≤ 1000000 by decide⟩, ann83, (L83 x), .raw, (loopsN1 (i0 := 0) (by kernel_rfl) ?_), ?_⟩
 ·clear h
  intro m_ s_ K_ h
  obtain ⟨hc0, i0, v0, rfl, hl0, rfl, hv0, h⟩ := (show LP83_0 x m_ s_ K_ from h)
  rw [lvc83_0 x i0 v0 _ K_]
  exact (loopI_step h (fun ht0 h => ⟨hl0, ⟨ht0, (fun r_5_6 e_r_5_6 => have h := ok_let h r_5_6 e_r_5_6; ⟨hl0, ⟨(ok_guard h).1, have h := (ok_guard h).2; (loopI_next (fun m hm => (show LP83_0 x m _ _ from ⟨hc0, hm⟩)) (v0.set i0.toNat r_5_6) rfl hl0 low0 ht0 (sm_len h_x) trivial (ok_ret h :))⟩⟩)⟩⟩) (fun h => (h trivial)))
 ·rw [vc83 x K]
  exact ⟨rfl, ⟨(Int.natCast_nonneg _), ⟨(sm_limI h_x rfl), (loopI_start (fun m hm => ⟨trivial, hm⟩) (0 : Int) (List.replicate (x.length : Int).toNat ((0 : Int), (false, ()))) rfl (Int.natCast_nonneg 0) trivial (ok_then h (fun v0 h hv0 => (ok_ret h :)) (fun _ h => h.elim)))⟩⟩⟩
def c154 : Con := ⟨[.dat TValue], fun args hp K => args1 (fun a0 => withD TValue a0 fun x => (Sm TValue x) ∧ (∀ r : (TValue).D, r = (x) → K (.data TValue r) [])) args hp, .plain⟩
def cons154 : Cons := []
@[reducible] def C154 : Ctx := ⟨tab, fun t => memN t cmps, cons154, 14, [], 0, false⟩
theorem consOk154 : ConsOk P C154 := by
 exact consOk_nil
def ann154 : Nat → List Dir
 | 0 => [.fixRow 1 TValue, .keep [1, 2]]
 | 1 => [.keep [1, 2, 3]]
 | 2 => [.keep [1, 2, 3]]
 | 3 => [.keep [1, 2, 3]]
 | 4 => [.keep [2, 3]]
 | 5 => [.keep [2]]
 | _ => []
def L154 (x : (TValue).D) : Loops := fun id m st_ K => match id with
 | _ => False
theorem vc154 (x : (TValue).D) (K : AV → Hp → Prop) : awp C154 (L154 x) ann154 (bodyOf f154) ⟨argEnv 0 [.data TValue x], []⟩ (outK tab false f154.results.toList (hasBox []) (resK (.dat TValue) K)) =
 (K (.data TValue x) []) := by kernel_rfl
theorem con154_ok : ConOk P 154 c154 := by
 refine con_okR (fn := f154) (code := bodyOf f154) (tab_ok tab_check cmp_check) consOk154 mixed func154 rfl rfl fun args hp K h0 => ?_
 obtain ⟨a0, rfl, rfl, h1⟩ := args1_elim h0
 obtain ⟨x, rfl, h2⟩ := withD_elim h1
 obtain ⟨h_x, hK⟩ := h2
 have h : ok (F.laws_toValue x) (fun r => K (.data TValue r) []) := ok_of_eq (F.laws_toValue_eq x h_x) (hK _ rfl)
 refine ⟨⟨show (1 : Nat) ≤ 14 by decide, show (1 : Nat) ≤ 1000000 by decide⟩, ann154, (L154 x), (.dat TValue), (no_loops (by kernel_rfl)), ?_⟩
 ·rw [vc154 x K]
  exact (ok_ret h :)
def c121 : Con := ⟨[.dat (Ty.sl TValue)], fun args hp K => args1 (fun a0 => withD (Ty.sl TValue) a0 fun x => (Sm (Ty.sl TValue) x) ∧ (∀ r : (List (TValue).D), r = (x) → K (.own 0 none) [(0, .arr false TValue r)])) args hp, .plain⟩
def cons121 : Cons := [(154, c154)]
@[reducible] def C121 : Ctx := ⟨tab, fun t => memN t cmps, cons121, 23, [], 0, false⟩
theorem consOk121 : ConsOk P C121 := by
 refine consOk_cons (enter_ok (fn := f154) func154 (by kernel_rfl) rfl) con154_ok ?_
 exact consOk_nil
def ann121 : Nat → List Dir
 | 0 => [.keep [0]]
 | 1 => [.keep [0, 3]]
 | 2 => [.keep [0, 3, 4]]
 | 3 => [.keep [0, 3, 4, 11]]
 | 4 => [.keep [0, 3, 4]]
 | 5 => [.keep [0, 3, 4]]
 | 6 => [.keep [2]]
 | 100000 => [.keep [3]]
 | _ => []
@[reducible] def LP121_0 (x : (List (TValue).D)) (m : Nat) (st_ : St) (K : X → St → Prop) : Prop := (True) ∧ LoopI (fun (i0 : Int) (v0 : (List (TValue).D)) => (⟨[(0, .data (Ty.sl TValue) x), (3, .own 7 none), (4, .data TInt i0)], [(7, .arr false TValue v0)]⟩ : St)) (0 : Int) (x.length : Int) (F.laws_toValueS_l0 x) (fun v0 : (List (TValue).D) => True) (outD (fun v0 : (List (TValue).D) => True → K (.exit 0) (⟨[(3, .own 7 none)], [(7, .arr false TValue v0)]⟩ : St)) (fun _ => False)) m st_
def L121 (x : (List (TValue).D)) : Loops := fun id m st_ K => match id with
 | 0 => LP121_0 x m st_ K
 | _ => False
theorem vc121 (x : (List (TValue).D)) (K : AV → Hp → Prop) : awp C121 (L121 x) ann121 (bodyOf f121) ⟨argEnv 0 [.data (Ty.sl TValue) x], []⟩ (outK tab false f121.results.toList (hasBox []) (resK .raw K)) =
 (((x.length : Int) = (x.length : Int)) ∧ (0 ≤ (x.length : Int)) ∧ ((x.length : Int) * 32 ≤ (lim : Int)) ∧ (∃ m_, (True) ∧ LoopI (fun (i0 : Int) (v0 : (List (TValue).D)) => (⟨[(0, .data (Ty.sl TValue) x), (3, .own 7 none), (4, .data TInt i0)], [(7, .arr false TValue v0)]⟩ : St)) (0 : Int) (x.length : Int) (F.laws_toValueS_l0 x) (fun v0 : (List (TValue).D) => True) (outD (fun v0 : (List (TValue).D) => True → K (.own 0 none) [(0, .arr false TValue v0)]) (fun _ => False)) m_ (⟨[(0, .data (Ty.sl TValue) x), (3, .own 7 none), (4, .data TInt (0 : Int))], [(7, .arr false TValue (List.replicate (x.length : Int).toNat ((0 : Int), ((0 : Int), ((⟨#[]⟩ : ByteArray), ())))))]⟩ : St))) := by kernel_rfl
theorem lvc121_0 (x : (List (TValue).D))  (i0 : Int) (v0 : (List (TValue).D)) (m : Nat) (K : X → St → Prop) : awp C121 (L121 x) ann121 (loopAt (bodyOf f121) 0) (⟨[(0, .data (Ty.sl TValue) x), (3, .own 7 none), (4, .data TInt i0)], [(7, .arr false TValue v0)]⟩ : St) (thenW (fun s' => ∃ m', m' < m ∧ (L121 x) 0 m' s' K) (exitN 0 (ann121 (behind 0)) K)) =
 (cond (decide (i0 < (x.length : Int))) ((0 ≤ i0) ∧ (i0 < (x.length : Int)) ∧ (Sm TValue (nth (t := TValue) x i0)) ∧ (∀ r_5_6 : (TValue).D, r_5_6 = ((nth (t := TValue) x i0)) → (0 ≤ i0) ∧ (i0 < (v0.length : Int)) ∧ (∃ m_, m_ < m ∧ (L121 x) 0 m_ (⟨[(0, .data (Ty.sl TValue) x), (3, .own 7 none), (4, .data TInt (wrap64 (i0 + (1 : Int))))], [(7, .arr false TValue (v0.set i0.toNat r_5_6))]⟩ : St) K))) (K (.exit 0) (⟨[(3, .own 7 none)], [(7, .arr false TValue v0)]⟩ : St))) := by kernel_rfl
theorem con121_ok : ConOk P 121 c121 := by
 refine con_okR (fn := f121) (code := bodyOf f121) (tab_ok tab_check cmp_check) consOk121 mixed func121 rfl rfl fun args hp K h0 => ?_
 obtain ⟨a0, rfl, rfl, h1⟩ := args1_elim h0
 obtain ⟨x, rfl, h2⟩ := withD_elim h1
 obtain ⟨h_x, hK⟩ := h2
 have h : ok (F.laws_toValueS x) (fun r => K (.own 0 none) [(0, .arr false TValue r)]) := ok_of_eq (F.laws_toValueS_eq x h_x) (hK _ rfl)
 refine ⟨⟨show (1 : Nat) ≤ 23 by decide, show (1 : Nat) ≤ 1000000 by decide⟩, ann121, (L121 x), .raw, (loopsN1 (i0 := 0) (by kernel_rfl) ?_), ?_⟩
 ·clear h
  intro m_ s_ K_ h
  obtain ⟨hc0, i0, v0, rfl, hl0, rfl, hv0, h⟩ := (show LP121_0 x m_ s_ K_ from h)
  rw [lvc121_0 x i0 v0 _ K_]
  exact (loopI_step h (fun ht0 h => ⟨hl0, ⟨ht0, ⟨(sm_nth h_x i0), (fun r_5_6 e_r_5_6 => have h := ok_let h r_5_6 e_r_5_6; ⟨hl0, ⟨(ok_guard h).1, have h := (ok_guard h).2; (loopI_next (fun m hm => (show LP121_0 x m _ _ from ⟨hc0, hm⟩)) (v0.set i0.toNat r_5_6) rfl hl0 low0 ht0 (sm_len h_x) trivial (ok_ret h :))⟩⟩)⟩⟩⟩) (fun h => (h trivial)))
 ·rw [vc121 x K]
  exact ⟨rfl, ⟨(Int.natCast_nonneg _), ⟨(sm_limI h_x rfl), (loopI_start (fun m hm => ⟨trivial, hm⟩) (0 : Int) (List.replicate (x.length : Int).toNat ((0 : Int), ((0 : Int), ((⟨#[]⟩ : ByteArray), ())))) rfl (Int.natCast_nonneg 0) trivial (ok_then h (fun v0 h hv0 => (ok_ret h :)) (fun _ h => h.elim)))⟩⟩⟩
def c84 : Con := ⟨[.dat (Ty.sl (Ty.sl TValue))], fun args hp K => args1 (fun a0 => withD (Ty.sl (Ty.sl TValue)) a0 fun x => (Sm (Ty.sl (Ty.sl TValue)) x) ∧ (∀ r : (List (List (TValue).D)), r = (x) → K (.own 0 none) [(0, .arr true (Ty.sl TValue) r)])) args hp, .plain⟩
def cons84 : Cons := [(121, c121)]
@[reducible] def C84 : Ctx := ⟨tab, fun t => memN t cmps, cons84, 23, [], 0, true⟩
theorem consOk84 : ConsOk P C84 := by
 refine consOk_cons (enter_ok (fn := f121) func121 (by kernel_rfl) rfl) con121_ok ?_
 exact consOk_nil
def ann84 : Nat → List Dir
 | 0 => [.keep [0]]
 | 1 => [.keep [0, 3]]
 | 2 => [.keep [0, 3, 4]]
 | 3 => [.keep [0, 3, 4, 11]]
 | 4 => [.keep [0, 3, 4]]
 | 5 => [.keep [0, 3, 4]]
 | 6 => [.keep [2]]
 | 100000 => [.keep [3]]
 | _ => []
@[reducible] def LP84_0 (x : (List (List (TValue).D))) (m : Nat) (st_ : St) (K : X → St → Prop) : Prop := (True) ∧ LoopI (fun (i0 : Int) (v0 : (List (List (TValue).D))) => (⟨[(0, .data (Ty.sl (Ty.sl TValue)) x), (3, .own 7 none), (4, .data TInt i0)], [(7, .arr true (Ty.sl TValue) v0)]⟩ : St)) (0 : Int) (x.length : Int) (F.laws_toValueSS_l0 x) (fun v0 : (List (List (TValue).D)) => True) (outD (fun v0 : (List (List (TValue).D)) => True → K (.exit 0) (⟨[(3, .own 7 none)], [(7, .arr true (Ty.sl TValue) v0)]⟩ : St)) (fun _ => False)) m st_
def L84 (x : (List (List (TValue).D))) : Loops := fun id m st_ K => match id with
 | 0 => LP84_0 x m st_ K
 | _ => False
theorem vc84 (x : (List (List (TValue).D))) (K : AV → Hp → Prop) : awp C84 (L84 x) ann84 (bodyOf f84) ⟨argEnv 0 [.data (Ty.sl (Ty.sl TValue)) x], []⟩ (outK tab true f84.results.toList (hasBox []) (resK .raw K)) =
 (((x.length : Int) = (x.length : Int)) ∧ (0 ≤ (x.length : Int)) ∧ ((x.length : Int) * 24 ≤ (lim : Int)) ∧ (∃ m_, (True) ∧ LoopI (fun (i0 : Int) (v0 : (List (List (TValue).D))) => (⟨[(0, .data (Ty.sl (Ty.sl TValue)) x), (3, .own 7 none), (4, .data TInt i0)], [(7, .arr true (Ty.sl TValue) v0)]⟩ : St)) (0 : Int) (x.length : Int) (F.laws_toValueSS_l0 x) (fun v0 : (List (List (TValue).D)) => True) (outD (fun v0 : (List (List (TValue).D)) => True → K (.own 0 none) [(0, .arr true (Ty.sl TValue) v0)]) (fun _ => False)) m_ (⟨[(0, .data (Ty.sl (Ty.sl TValue)) x), (3, .own 7 none), (4, .data TInt (0 : Int))], [(7, .arr true (Ty.sl TValue) (List.replicate (x.length : Int).toNat []))]⟩ : St))) := by kernel_rfl
theorem lvc84_0 (x : (List (List (TValue).D)))  (i0 : Int) (v0 : (List (List (TValue).D))) (m : Nat) (K : X → St → Prop) : awp C84 (L84 x) ann84 (loopAt (bodyOf f84) 0) (⟨[(0, .data (Ty.sl (Ty.sl TValue)) x), (3, .own 7 none), (4, .data TInt i0)], [(7, .arr true (Ty.sl TValue) v0)]⟩ : St) (thenW (fun s' => ∃ m', m' < m ∧ (L84 x) 0 m' s' K) (exitN 0 (ann84 (behind 0)) K)) =
 (cond (decide (i0 < (x.length : Int))) ((0 ≤ i0) ∧ (i0 < (x.length : Int)) ∧ (Sm (Ty.sl TValue) (nth (t := (Ty.sl TValue)) x i0)) ∧ (∀ r_5_6 : (List (TValue).D), r_5_6 = ((nth (t := (Ty.sl TValue)) x i0)) → (0 ≤ i0) ∧ (i0 < (v0.length : Int)) ∧ (∃ m_, m_ < m ∧ (L84 x) 0 m_ (⟨[(0, .data (Ty.sl (Ty.sl TValue)) x), (3, .own 7 none), (4, .data TInt (wrap64 (i0 + (1 : Int))))], [(7, .arr true (Ty.sl TValue) (v0.set i0.toNat r_5_6))]⟩ : St) K))) (K (.exit 0) (⟨[(3, .own 7 none)], [(7, .arr true (Ty.sl TValue) v0)]⟩ : St))) := by kernel_rfl
theorem con84_ok : ConOk P 84 c84 := by
 refine con_okR (fn := f84) (code := bodyOf f84) (tab_ok tab_check cmp_check) consOk84 mixed func84 rfl rfl fun args hp K h0 => ?_
 obtain ⟨a0, rfl, rfl, h1⟩ := args1_elim h0
 obtain ⟨x, rfl, h2⟩ := withD_elim h1
 obtain ⟨h_x, hK⟩ := h2
 have h : ok (F.laws_toValueSS x) (fun r => K (.own 0 none) [(0, .arr true (Ty.sl TValue) r)]) := ok_of_eq (F.laws_toValueSS_eq x h_x) (hK _ rfl)
 refine ⟨⟨show (1 : Nat) ≤ 23 by decide, show (1 : Nat) ≤ 1000000 by decide⟩, ann84, (L84 x), .raw, (loopsN1 (i0 := 0) (by kernel_rfl) ?_), ?_⟩
 ·clear h
  intro m_ s_ K_ h
  obtain ⟨hc0, i0, v0, rfl, hl0, rfl, hv0, h⟩ := (show LP84_0 x m_ s_ K_ from h)
  rw [lvc84_0 x i0 v0 _ K_]
  exact (loopI_step h (fun ht0 h => ⟨hl0, ⟨ht0, ⟨(sm_nth h_x i0), (fun r_5_6 e_r_5_6 => have h := ok_let h r_5_6 e_r_5_6; ⟨hl0, ⟨(ok_guard h).1, have h := (ok_guard h).2; (loopI_next (fun m hm => (show LP84_0 x m _ _ from ⟨hc0, hm⟩)) (v0.set i0.toNat r_5_6) rfl hl0 low0 ht0 (sm_len h_x) trivial (ok_ret h :))⟩⟩)⟩⟩⟩) (fun h => (h trivial)))
 ·rw [vc84 x K]
  exact ⟨rfl, ⟨(Int.natCast_nonneg _), ⟨(sm_limI h_x rfl), (loopI_start (fun m hm => ⟨trivial, hm⟩) (0 : Int) (List.replicate (x.length : Int).toNat []) rfl (Int.natCast_nonneg 0) trivial (ok_then h (fun v0 h hv0 => (ok_ret h :)) (fun _ h => h.elim)))⟩⟩⟩
def cons39 : Cons := [(83, c83), (84, c84)]
@[reducible] def C39 : Ctx := ⟨tab, fun t => memN t cmps, cons39, 13, [], 200000, true⟩
theorem consOk39 : ConsOk P C39 := by
 refine consOk_cons (enter_ok (fn := f83) func83 (by kernel_rfl) rfl) con83_ok ?_
 refine consOk_cons (enter_ok (fn := f84) func84 (by kernel_rfl) rfl) con84_ok ?_
 exact consOk_nil
def T39 : Inl := inlT C39 (fun _ => []) (bodyOf f39) f39.results.toList
theorem inlOk39 : InlOk P 39 T39 := inl_ok (fn := f39) (code := bodyOf f39) (tab_ok tab_check cmp_check) consOk39 mixed func39 rfl rfl (by kernel_rfl)
def c11 : Con := ⟨[.dat (Ty.sl TTable)], fun args hp K => args1 (fun a0 => withD (Ty.sl TTable) a0 fun x => (Sm (Ty.sl TTable) x) ∧ (∀ r : (List (TTable).D), r = (x) → K (.own 0 none) [(0, .arr true TTable r)])) args hp, .plain⟩
def cons11 : Cons := []
@[reducible] def C11 : Ctx := ⟨tab, fun t => memN t cmps, cons11, 23, [(39, T39)], 0, true⟩
theorem consOk11 : ConsOk P C11 := by
 refine consOk_inl (enter_ok (fn := f39) func39 (by kernel_rfl) rfl) inlOk39 ?_
 exact consOk_nil
def ann11 : Nat → List Dir
 | 0 => [.keep [0]]
 | 1 => [.keep [0, 3]]
 | 2 => [.keep [0, 3, 4]]
 | 3 => [.keep [0, 3, 4, 11]]
 | 4 => [.keep [0, 3, 4]]
 | 5 => [.keep [0, 3, 4]]
 | 6 => [.keep [2]]
 | 100000 => [.keep [3]]
 | _ => []
@[reducible] def LP11_0 (x : (List (TTable).D)) (m : Nat) (st_ : St) (K : X → St → Prop) : Prop := (True) ∧ LoopI (fun (i0 : Int) (v0 : (List (TTable).D)) => (⟨[(0, .data (Ty.sl TTable) x), (3, .own 7 none), (4, .data TInt i0)], [(7, .arr true TTable v0)]⟩ : St)) (0 : Int) (x.length : Int) (F.laws_toTableS_l0 x) (fun v0 : (List (TTable).D) => True) (outD (fun v0 : (List (TTable).D) => True → K (.exit 0) (⟨[(3, .own 7 none)], [(7, .arr true TTable v0)]⟩ : St)) (fun _ => False)) m st_
def L11 (x : (List (TTable).D)) : Loops := fun id m st_ K => match id with
 | 0 => LP11_0 x m st_ K
 | _ => False
theorem vc11 (x : (List (TTable).D)) (K : AV → Hp → Prop) : awp C11 (L11 x) ann11 (bodyOf f11) ⟨argEnv 0 [.data (Ty.sl TTable) x], []⟩ (outK tab true f11.results.toList (hasBox []) (resK .raw K)) =
 (((x.length : Int) = (x.length : Int)) ∧ (0 ≤ (x.length : Int)) ∧ ((x.length : Int) * 48 ≤ (lim : Int)) ∧ (∃ m_, (True) ∧ LoopI (fun (i0 : Int) (v0 : (List (TTable).D)) => (⟨[(0, .data (Ty.sl TTable) x), (3, .own 7 none), (4, .data TInt i0)], [(7, .arr true TTable v0)]⟩ : St)) (0 : Int) (x.length : Int) (F.laws_toTableS_l0 x) (fun v0 : (List (TTable).D) => True) (outD (fun v0 : (List (TTable).D) => True → K (.own 0 none) [(0, .arr true TTable v0)]) (fun _ => False)) m_ (⟨[(0, .data (Ty.sl TTable) x), (3, .own 7 none), (4, .data TInt (0 : Int))], [(7, .arr true TTable (List.replicate (x.length : Int).toNat ([], ([], ()))))]⟩ : St))) := by kernel_rfl
theorem lvc11_0 (x : (List (TTable).D))  (i0 : Int) (v0 : (List (TTable).D)) (m : Nat) (K : X → St → Prop) : awp C11 (L11 x) ann11 (loopAt (bodyOf f11) 0) (⟨[(0, .data (Ty.sl TTable) x), (3, .own 7 none), (4, .data TInt i0)], [(7, .arr true TTable v0)]⟩ : St) (thenW (fun s' => ∃ m', m' < m ∧ (L11 x) 0 m' s' K) (exitN 0 (ann11 (behind 0)) K)) =
 (cond (decide (i0 < (x.length : Int))) ((0 ≤ i0) ∧ (i0 < (x.length : Int)) ∧ (Sm (Ty.sl TColumn) ((nth (t := TTable) x i0).1)) ∧ (∀ r_1002_2 : (List (TColumn).D), r_1002_2 = (((nth (t := TTable) x i0).1)) → (Sm (Ty.sl (Ty.sl TValue)) (((nth (t := TTable) x i0).2).1)) ∧ (∀ r_1003_2 : (List (List (TValue).D)), r_1003_2 = ((((nth (t := TTable) x i0).2).1)) → (0 ≤ i0) ∧ (i0 < (v0.length : Int)) ∧ (∃ m_, m_ < m ∧ (L11 x) 0 m_ (⟨[(0, .data (Ty.sl TTable) x), (3, .own 7 none), (4, .data TInt (wrap64 (i0 + (1 : Int))))], [(7, .arr true TTable (v0.set i0.toNat (r_1002_2, (r_1003_2, ()))))]⟩ : St) K)))) (K (.exit 0) (⟨[(3, .own 7 none)], [(7, .arr true TTable v0)]⟩ : St))) := by kernel_rfl
theorem con11_ok : ConOk P 11 c11 := by
 refine con_okR (fn := f11) (code := bodyOf f11) (tab_ok tab_check cmp_check) consOk11 mixed func11 rfl rfl fun args hp K h0 => ?_
 obtain ⟨a0, rfl, rfl, h1⟩ := args1_elim h0
 obtain ⟨x, rfl, h2⟩ := withD_elim h1
 obtain ⟨h_x, hK⟩ := h2
 have h : ok (F.laws_toTableS x) (fun r => K (.own 0 none) [(0, .arr true TTable r)]) := ok_of_eq (F.laws_toTableS_eq x h_x) (hK _ rfl)
 refine ⟨⟨show (1 : Nat) ≤ 23 by decide, show (1 : Nat) ≤ 1000000 by decide⟩, ann11, (L11 x), .raw, (loopsN1 (i0 := 0) (by kernel_rfl) ?_), ?_⟩
 ·clear h
  intro m_ s_ K_ h
  obtain ⟨hc0, i0, v0, rfl, hl0, rfl, hv0, h⟩ := (show LP11_0 x m_ s_ K_ from h)
  rw [lvc11_0 x i0 v0 _ K_]
  exact (loopI_step h (fun ht0 h => ⟨hl0, ⟨ht0, ⟨(sm_nth h_x i0).1, (fun r_1002_2 e_r_1002_2 => have h := ok_let h r_1002_2 e_r_1002_2; ⟨(sm_nth h_x i0).2.1, (fun r_1003_2 e_r_1003_2 => have h := ok_let h r_1003_2 e_r_1003_2; ⟨hl0, ⟨(ok_guard h).1, have h := (ok_guard h).2; (loopI_next (fun m hm => (show LP11_0 x m _ _ from ⟨hc0, hm⟩)) (v0.set i0.toNat (r_1002_2, (r_1003_2, ()))) rfl hl0 low0 ht0 (sm_len h_x) trivial (ok_ret h :))⟩⟩)⟩)⟩⟩⟩) (fun h => (h trivial)))
 ·rw [vc11 x K]
  exact ⟨rfl, ⟨(Int.natCast_nonneg _), ⟨(sm_limI h_x rfl), (loopI_start (fun m hm => ⟨trivial, hm⟩) (0 : Int) (List.replicate (x.length : Int).toNat ([], ([], ()))) rfl (Int.natCast_nonneg 0) trivial (ok_then h (fun v0 h hv0 => (ok_ret h :)) (fun _ h => h.elim)))⟩⟩⟩
def c122 : Con := ⟨[.dat TPart], fun args hp K => args1 (fun a0 => withD TPart a0 fun x => (Sm TPart x) ∧ (∀ r : (TPart).D, r = (x) → K (.data TPart r) [])) args hp, .plain⟩
def cons122 : Cons := [(154, c154)]
@[reducible] def C122 : Ctx := ⟨tab, fun t => memN t cmps, cons122, 15, [], 0, false⟩
theorem consOk122 : ConsOk P C122 := by
 refine consOk_cons (enter_ok (fn := f154) func154 (by kernel_rfl) rfl) con154_ok ?_
 exact consOk_nil
def ann122 : Nat → List Dir
 | 0 => [.fixRow 1 TPart, .keep [1, 2]]
 | 1 => [.keep [1, 2, 3]]
 | 2 => [.keep [1, 2, 3]]
 | 3 => [.keep [1, 2, 3]]
 | 4 => [.keep [2, 3]]
 | 5 => [.keep [2]]
 | _ => []
def L122 (x : (TPart).D) : Loops := fun id m st_ K => match id with
 | _ => False
theorem vc122 (x : (TPart).D) (K : AV → Hp → Prop) : awp C122 (L122 x) ann122 (bodyOf f122) ⟨argEnv 0 [.data TPart x], []⟩ (outK tab false f122.results.toList (hasBox []) (resK (.dat TPart) K)) =
 ((Sm TValue x.2.2.1) ∧ (∀ r_4_2 : (TValue).D, r_4_2 = (x.2.2.1) → K (.data TPart (x.1, (x.2.1, (r_4_2, ())))) [])) := by kernel_rfl
theorem con122_ok : ConOk P 122 c122 := by
 refine con_okR (fn := f122) (code := bodyOf f122) (tab_ok tab_check cmp_check) consOk122 mixed func122 rfl rfl fun args hp K h0 => ?_
 obtain ⟨a0, rfl, rfl, h1⟩ := args1_elim h0
 obtain ⟨x, rfl, h2⟩ := withD_elim h1
 obtain ⟨h_x, hK⟩ := h2
 have h : ok (F.laws_toPart x) (fun r => K (.data TPart r) []) := ok_of_eq (F.laws_toPart_eq x h_x) (hK _ rfl)
 refine ⟨⟨show (1 : Nat) ≤ 15 by decide, show (1 : Nat) ≤ 1000000 by decide⟩, ann122, (L122 x), (.dat TPart), (no_loops (by kernel_rfl)), ?_⟩
 ·rw [vc122 x K]
  exact ⟨h_x.2.2.1, (fun r_4_2 e_r_4_2 => have h := ok_let h r_4_2 e_r_4_2; (ok_ret h :))⟩
def c85 : Con := ⟨[.dat (Ty.sl TPart)], fun args hp K => args1 (fun a0 => withD (Ty.sl TPart) a0 fun x => (Sm (Ty.sl TPart) x) ∧ (∀ r : (List (TPart).D), r = (x) → K (.own 0 none) [(0, .arr false TPart r)])) args hp, .plain⟩
def cons85 : Cons := [(122, c122)]
@[reducible] def C85 : Ctx := ⟨tab, fun t => memN t cmps, cons85, 23, [], 0, false⟩
theorem consOk85 : ConsOk P C85 := by
 refine consOk_cons (enter_ok (fn := f122) func122 (by kernel_rfl) rfl) con122_ok ?_
 exact consOk_nil
def ann85 : Nat → List Dir
 | 0 => [.keep [0]]
 | 1 => [.keep [0, 3]]
 | 2 => [.keep [0, 3, 4]]
 | 3 => [.keep [0, 3, 4, 11]]
 | 4 => [.keep [0, 3, 4]]
 | 5 => [.keep [0, 3, 4]]
 | 6 => [.keep [2]]
 | 100000 => [.keep [3]]
 | _ => []
@[reducible] def LP85_0 (x : (List (TPart).D)) (m : Nat) (st_ : St) (K : X → St → Prop) : Prop := (True) ∧ LoopI (fun (i0 : Int) (v0 : (List (TPart).D)) => (⟨[(0, .data (Ty.sl TPart) x), (3, .own 7 none), (4, .data TInt i0)], [(7, .arr false TPart v0)]⟩ : St)) (0 : Int) (x.length : Int) (F.laws_toPartS_l0 x) (fun v0 : (List (TPart).D) => True) (outD (fun v0 : (List (TPart).D) => True → K (.exit 0) (⟨[(3, .own 7 none)], [(7, .arr false TPart v0)]⟩ : St)) (fun _ => False)) m st_
def L85 (x : (List (TPart).D)) : Loops := fun id m st_ K => match id with
 | 0 => LP85_0 x m st_ K
 | _ => False
theorem vc85 (x : (List (TPart).D)) (K : AV → Hp → Prop) : awp C85 (L85 x) ann85 (bodyOf f85) ⟨argEnv 0 [.data (Ty.sl TPart) x], []⟩ (outK tab false f85.results.toList (hasBox []) (resK .raw K)) =
 (((x.length : Int) = (x.length : Int)) ∧ (0 ≤ (x.length : Int)) ∧ ((x.length : Int) * 48 ≤ (lim : Int)) ∧ (∃ m_, (True) ∧ LoopI (fun (i0 : Int) (v0 : (List (TPart).D)) => (⟨[(0, .data (Ty.sl TPart) x), (3, .own 7 none), (4, .data TInt i0)], [(7, .arr false TPart v0)]⟩ : St)) (0 : Int) (x.length : Int) (F.laws_toPartS_l0 x) (fun v0 : (List (TPart).D) => True) (outD (fun v0 : (List (TPart).D) => True → K (.own 0 none) [(0, .arr false TPart v0)]) (fun _ => False)) m_ (⟨[(0, .data (Ty.sl TPart) x), (3, .own 7 none), (4, .data TInt (0 : Int))], [(7, .arr false TPart (List.replicate (x.length : Int).toNat ((0 : Int), ((0 : Int), (((0 : Int), ((0 : Int), ((⟨#[]⟩ : ByteArray), ()))), ())))))]⟩ : St))) := by kernel_rfl
theorem lvc85_0 (x : (List (TPart).D))  (i0 : Int) (v0 : (List (TPart).D)) (m : Nat) (K : X → St → Prop) : awp C85 (L85 x) ann85 (loopAt (bodyOf f85) 0) (⟨[(0, .data (Ty.sl TPart) x), (3, .own 7 none), (4, .data TInt i0)], [(7, .arr false TPart v0)]⟩ : St) (thenW (fun s' => ∃ m', m' < m ∧ (L85 x) 0 m' s' K) (exitN 0 (ann85 (behind 0)) K)) =
 (cond (decide (i0 < (x.length : Int))) ((0 ≤ i0) ∧ (i0 < (x.length : Int)) ∧ (Sm TPart (nth (t := TPart) x i0)) ∧ (∀ r_5_6 : (TPart).D, r_5_6 = ((nth (t := TPart) x i0)) → (0 ≤ i0) ∧ (i0 < (v0.length : Int)) ∧ (∃ m_, m_ < m ∧ (L85 x) 0 m_ (⟨[(0, .data (Ty.sl TPart) x), (3, .own 7 none), (4, .data TInt (wrap64 (i0 + (1 : Int))))], [(7, .arr false TPart (v0.set i0.toNat r_5_6))]⟩ : St) K))) (K (.exit 0) (⟨[(3, .own 7 none)], [(7, .arr false TPart v0)]⟩ : St))) := by kernel_rfl
theorem con85_ok : ConOk P 85 c85 := by
 refine con_okR (fn := f85) (code := bodyOf f85) (tab_ok tab_check cmp_check) consOk85 mixed func85 rfl rfl fun args hp K h0 => ?_
 obtain ⟨a0, rfl, rfl, h1⟩ := args1_elim h0
 obtain ⟨x, rfl, h2⟩ := withD_elim h1
 obtain ⟨h_x, hK⟩ := h2
 have h : ok (F.laws_toPartS x) (fun r => K (.own 0 none) [(0, .arr false TPart r)]) := ok_of_eq (F.laws_toPartS_eq x h_x) (hK _ rfl)
 refine ⟨⟨show (1 : Nat) ≤ 23 by decide, show (1 : Nat) ≤ 1000000 by decide⟩, ann85, (L85 x), .raw, (loopsN1 (i0 := 0) (by kernel_rfl) ?_), ?_⟩
 ·clear h
  intro m_ s_ K_ h
  obtain ⟨hc0, i0, v0, rfl, hl0, rfl, hv0, h⟩ := (show LP85_0 x m_ s_ K_ from h)
  rw [lvc85_0 x i0 v0 _ K_]
  exact (loopI_step h (fun ht0 h => ⟨hl0, ⟨ht0, ⟨(sm_nth h_x i0), (fun r_5_6 e_r_5_6 => have h := ok_let h r_5_6 e_r_5_6; ⟨hl0, ⟨(ok_guard h).1, have h := (ok_guard h).2; (loopI_next (fun m hm => (show LP85_0 x m _ _ from ⟨hc0, hm⟩)) (v0.set i0.toNat r_5_6) rfl hl0 low0 ht0 (sm_len h_x) trivial (ok_ret h :))⟩⟩)⟩⟩⟩) (fun h => (h trivial)))
 ·rw [vc85 x K]
  exact ⟨rfl, ⟨(Int.natCast_nonneg _), ⟨(sm_limI h_x rfl), (loopI_start (fun m hm => ⟨trivial, hm⟩) (0 : Int) (List.replicate (x.length : Int).toNat ((0 : Int), ((0 : Int), (((0 : Int), ((0 : Int), ((⟨#[]⟩ : ByteArray), ()))), ())))) rfl (Int.natCast_nonneg 0) trivial (ok_then h (fun v0 h hv0 => (ok_ret h :)) (fun _ h => h.elim)))⟩⟩⟩
def c86 : Con := ⟨[.dat (Ty.sl TInt)], fun args hp K => args1 (fun a0 => withD (Ty.sl TInt) a0 fun x => (Sm (Ty.sl TInt) x) ∧ (∀ r : (List Int), r = (x) → K (.own 0 none) [(0, .arr false TInt r)])) args hp, .plain⟩
def cons86 : Cons := []
@[reducible] def C86 : Ctx := ⟨tab, fun t => memN t cmps, cons86, 22, [], 0, false⟩
theorem consOk86 : ConsOk P C86 := by
 exact consOk_nil
def ann86 : Nat → List Dir
 | 0 => [.keep [0]]
 | 1 => [.keep [0, 3]]
 | 2 => [.keep [0, 3, 4]]
 | 3 => [.keep [0, 3, 4, 11]]
 | 4 => [.keep [0, 3, 4]]
 | 5 => [.keep [0, 3, 4]]
 | 6 => [.keep [2]]
 | 100000 => [.keep [3]]
 | _ => []
@[reducible] def LP86_0 (x : (List Int)) (m : Nat) (st_ : St) (K : X → St → Prop) : Prop := (True) ∧ LoopI (fun (i0 : Int) (v0 : (List Int)) => (⟨[(0, .data (Ty.sl TInt) x), (3, .own 7 none), (4, .data TInt i0)], [(7, .arr false TInt v0)]⟩ : St)) (0 : Int) (x.length : Int) (F.laws_toIntS_l0 x) (fun v0 : (List Int) => True) (outD (fun v0 : (List Int) => True → K (.exit 0) (⟨[(3, .own 7 none)], [(7, .arr false TInt v0)]⟩ : St)) (fun _ => False)) m st_
def L86 (x : (List Int)) : Loops := fun id m st_ K => match id with
 | 0 => LP86_0 x m st_ K
 | _ => False
theorem vc86 (x : (List Int)) (K : AV → Hp → Prop) : awp C86 (L86 x) ann86 (bodyOf f86) ⟨argEnv 0 [.data (Ty.sl TInt) x], []⟩ (outK tab false f86.results.toList (hasBox []) (resK .raw K)) =
 (((x.length : Int) = (x.length : Int)) ∧ (0 ≤ (x.length : Int)) ∧ ((x.length : Int) * 8 ≤ (lim : Int)) ∧ (∃ m_, (True) ∧ LoopI (fun (i0 : Int) (v0 : (List Int)) => (⟨[(0, .data (Ty.sl TInt) x), (3, .own 7 none), (4, .data TInt i0)], [(7, .arr false TInt v0)]⟩ : St)) (0 : Int) (x.length : Int) (F.laws_toIntS_l0 x) (fun v0 : (List Int) => True) (outD (fun v0 : (List Int) => True → K (.own 0 none) [(0, .arr false TInt v0)]) (fun _ => False)) m_ (⟨[(0, .data (Ty.sl TInt) x), (3, .own 7 none), (4, .data TInt (0 : Int))], [(7, .arr false TInt (List.replicate (x.length : Int).toNat (0 : Int)))]⟩ : St))) := by kernel_rfl
theorem lvc86_0 (x : (List Int))  (i0 : Int) (v0 : (List Int)) (m : Nat) (K : X → St → Prop) : awp C86 (L86 x) ann86 (loopAt (bodyOf f86) 0) (⟨[(0, .data (Ty.sl TInt) x), (3, .own 7 none), (4, .data TInt i0)], [(7, .arr false TInt v0)]⟩ : St) (thenW (fun s' => ∃ m', m' < m ∧ (L86 x) 0 m' s' K) (exitN 0 (ann86 (behind 0)) K)) =
 (cond (decide (i0 < (x.length : Int))) ((0 ≤ i0) ∧ (i0 < (x.length : Int)) ∧ (0 ≤ i0) ∧ (i0 < (v0.length : Int)) ∧ (∃ m_, m_ < m ∧ (L86 x) 0 m_ (⟨[(0, .data (Ty.sl TInt) x), (3, .own 7 none), (4, .data TInt (wrap64 (i0 + (1 : Int))))], [(7, .arr false TInt (v0.set i0.toNat (nth (t := TInt) x i0)))]⟩ : St) K)) (K (.exit 0) (⟨[(3, .own 7 none)], [(7, .arr false TInt v0)]⟩ : St))) := by kernel_rfl
theorem con86_ok : ConOk P 86 c86 := by
 refine con_okR (fn := f86) (code := bodyOf f86) (tab_ok tab_check cmp_check) consOk86 mixed func86 rfl rfl fun args hp K h0 => ?_
 obtain ⟨a0, rfl, rfl, h1⟩ := args1_elim h0
 obtain ⟨x, rfl, h2⟩ := withD_elim h1
 obtain ⟨h_x, hK⟩ := h2
 have h : ok (F.laws_toIntS x) (fun r => K (.own 0 none) [(0, .arr false TInt r)]) := ok_of_eq (F.laws_toIntS_eq x h_x) (hK _ rfl)
 refine ⟨⟨show (1 : Nat) ≤ 22 by decide, show (1 : Nat) ≤ 1000000 by decide⟩, ann86, (L86 x), .raw, (loopsN1 (i0 := 0) (by kernel_rfl) ?_), ?_⟩
 ·clear h
  intro m_ s_ K_ h
  obtain ⟨hc0, i0, v0, rfl, hl0, rfl, hv0, h⟩ := (show LP86_0 x m_ s_ K_ from h)
  rw [lvc86_0 x i0 v0 _ K_]
  exact (loopI_step h (fun ht0 h => ⟨hl0, ⟨ht0, ⟨hl0, ⟨(ok_guard h).1, have h := (ok_guard h).2; (loopI_next (fun m hm => (show LP86_0 x m _ _ from ⟨hc0, hm⟩)) (v0.set i0.toNat (nth (t := TInt) x i0)) rfl hl0 low0 ht0 (sm_len h_x) trivial (ok_ret h :))⟩⟩⟩⟩) (fun h => (h trivial)))
 ·rw [vc86 x K]
  exact ⟨rfl, ⟨(Int.natCast_nonneg _), ⟨(sm_limI h_x rfl), (loopI_start (fun m hm => ⟨trivial, hm⟩) (0 : Int) (List.replicate (x.length : Int).toNat (0 : Int)) rfl (Int.natCast_nonneg 0) trivial (ok_then h (fun v0 h hv0 => (ok_ret h :)) (fun _ h => h.elim)))⟩⟩⟩
def cons40 : Cons := [(85, c85), (86, c86)]
@[reducible] def C40 : Ctx := ⟨tab, fun t => memN t cmps, cons40, 25, [], 200000, true⟩
theorem consOk40 : ConsOk P C40 := by
 refine consOk_cons (enter_ok (fn := f85) func85 (by kernel_rfl) rfl) con85_ok ?_
 refine consOk_cons (enter_ok (fn := f86) func86 (by kernel_rfl) rfl) con86_ok ?_
 exact consOk_nil
def T40 : Inl := inlT C40 (fun _ => []) (bodyOf f40) f40.results.toList
theorem inlOk40 : InlOk P 40 T40 := inl_ok (fn := f40) (code := bodyOf f40) (tab_ok tab_check cmp_check) consOk40 mixed func40 rfl rfl (by kernel_rfl)
def c12 : Con := ⟨[.dat (Ty.sl TStep)], fun args hp K => args1 (fun a0 => withD (Ty.sl TStep) a0 fun x => (Sm (Ty.sl TStep) x) ∧ (∀ r : (List (TStep).D), r = (x) → K (.own 0 none) [(0, .arr true TStep r)])) args hp, .plain⟩
def cons12 : Cons := []
@[reducible] def C12 : Ctx := ⟨tab, fun t => memN t cmps, cons12, 23, [(40, T40)], 0, true⟩
theorem consOk12 : ConsOk P C12 := by
 refine consOk_inl (enter_ok (fn := f40) func40 (by kernel_rfl) rfl) inlOk40 ?_
 exact consOk_nil
def ann12 : Nat → List Dir
 | 0 => [.keep [0]]
 | 1 => [.keep [0, 3]]
 | 2 => [.keep [0, 3, 4]]
 | 3 => [.keep [0, 3, 4, 11]]
 | 4 => [.keep [0, 3, 4]]
 | 5 => [.keep [0, 3, 4]]
 | 6 => [.keep [2]]
 | 100000 => [.keep [3]]
 | _ => []
@[reducible] def LP12_0 (x : (List (TStep).D)) (m : Nat) (st_ : St) (K : X → St → Prop) : Prop := (True) ∧ LoopI (fun (i0 : Int) (v0 : (List (TStep).D)) => (⟨[(0, .data (Ty.sl TStep) x), (3, .own 7 none), (4, .data TInt i0)], [(7, .arr true TStep v0)]⟩ : St)) (0 : Int) (x.length : Int) (F.laws_toStepS_l0 x) (fun v0 : (List (TStep).D) => True) (outD (fun v0 : (List (TStep).D) => True → K (.exit 0) (⟨[(3, .own 7 none)], [(7, .arr true TStep v0)]⟩ : St)) (fun _ => False)) m st_
def L12 (x : (List (TStep).D)) : Loops := fun id m st_ K => match id with
 | 0 => LP12_0 x m st_ K
 | _ => False
theorem vc12 (x : (List (TStep).D)) (K : AV → Hp → Prop) : awp C12 (L12 x) ann12 (bodyOf f12) ⟨argEnv 0 [.data (Ty.sl TStep) x], []⟩ (outK tab true f12.results.toList (hasBox []) (resK .raw K)) =
 (((x.length : Int) = (x.length : Int)) ∧ (0 ≤ (x.length : Int)) ∧ ((x.length : Int) * 80 ≤ (lim : Int)) ∧ (∃ m_, (True) ∧ LoopI (fun (i0 : Int) (v0 : (List (TStep).D)) => (⟨[(0, .data (Ty.sl TStep) x), (3, .own 7 none), (4, .data TInt i0)], [(7, .arr true TStep v0)]⟩ : St)) (0 : Int) (x.length : Int) (F.laws_toStepS_l0 x) (fun v0 : (List (TStep).D) => True) (outD (fun v0 : (List (TStep).D) => True → K (.own 0 none) [(0, .arr true TStep v0)]) (fun _ => False)) m_ (⟨[(0, .data (Ty.sl TStep) x), (3, .own 7 none), (4, .data TInt (0 : Int))], [(7, .arr true TStep (List.replicate (x.length : Int).toNat ((0 : Int), ((0 : Int), ((0 : Int), ((0 : Int), ([], ([], ()))))))))]⟩ : St))) := by kernel_rfl
theorem lvc12_0 (x : (List (TStep).D))  (i0 : Int) (v0 : (List (TStep).D)) (m : Nat) (K : X → St → Prop) : awp C12 (L12 x) ann12 (loopAt (bodyOf f12) 0) (⟨[(0, .data (Ty.sl TStep) x), (3, .own 7 none), (4, .data TInt i0)], [(7, .arr true TStep v0)]⟩ : St) (thenW (fun s' => ∃ m', m' < m ∧ (L12 x) 0 m' s' K) (exitN 0 (ann12 (behind 0)) K)) =
 (cond (decide (i0 < (x.length : Int))) ((0 ≤ i0) ∧ (i0 < (x.length : Int)) ∧ (Sm (Ty.sl TPart) ((((((nth (t := TStep) x i0).2).2).2).2).1)) ∧ (∀ r_1006_2 : (List (TPart).D), r_1006_2 = (((((((nth (t := TStep) x i0).2).2).2).2).1)) → (Sm (Ty.sl TInt) (((((((nth (t := TStep) x i0).2).2).2).2).2).1)) ∧ (∀ r_1007_2 : (List Int), r_1007_2 = ((((((((nth (t := TStep) x i0).2).2).2).2).2).1)) → (0 ≤ i0) ∧ (i0 < (v0.length : Int)) ∧ (let y_5_8 : (List (TStep).D) := (v0.set i0.toNat ((nth (t := TStep) x i0).1, (((nth (t := TStep) x i0).2).1, ((((nth (t := TStep) x i0).2).2).1, (((((nth (t := TStep) x i0).2).2).2).1, (r_1006_2, (r_1007_2, ()))))))); (∃ m_, m_ < m ∧ (L12 x) 0 m_ (⟨[(0, .data (Ty.sl TStep) x), (3, .own 7 none), (4, .data TInt (wrap64 (i0 + (1 : Int))))], [(7, .arr true TStep y_5_8)]⟩ : St) K))))) (K (.exit 0) (⟨[(3, .own 7 none)], [(7, .arr true TStep v0)]⟩ : St))) := by kernel_rfl
theorem con12_ok : ConOk P 12 c12 := by
 refine con_okR (fn := f12) (code := bodyOf f12) (tab_ok tab_check cmp_check) consOk12 mixed func12 rfl rfl fun args hp K h0 => ?_
 obtain ⟨a0, rfl, rfl, h1⟩ := args1_elim h0
 obtain ⟨x, rfl, h2⟩ := withD_elim h1
 obtain ⟨h_x, hK⟩ := h2
 have h : ok (F.laws_toStepS x) (fun r => K (.own 0 none) [(0, .arr true TStep r)]) := ok_of_eq (F.laws_toStepS_eq x h_x) (hK _ rfl)
 refine ⟨⟨show (1 : Nat) ≤ 23 by decide, show (1 : Nat) ≤ 1000000 by decide⟩, ann12, (L12 x), .raw, (loopsN1 (i0 := 0) (by kernel_rfl) ?_), ?_⟩
 ·clear h
  intro m_ s_ K_ h
  obtain ⟨hc0, i0, v0, rfl, hl0, rfl, hv0, h⟩ := (show LP12_0 x m_ s_ K_ from h)
  rw [lvc12_0 x i0 v0 _ K_]
  exact (loopI_step h (fun ht0 h => ⟨hl0, ⟨ht0, ⟨(sm_nth h_x i0).2.2.2.2.1, (fun r_1006_2 e_r_1006_2 => have h := ok_let h r_1006_2 e_r_1006_2; ⟨(sm_nth h_x i0).2.2.2.2.2.1, (fun r_1007_2 e_r_1007_2 => have h := ok_let h r_1007_2 e_r_1007_2; ⟨hl0, ⟨(ok_guard h).1, have h := (ok_guard h).2; (let y_5_8 : (List (TStep).D) := (v0.set i0.toNat ((nth (t := TStep) x i0).1, (((nth (t := TStep) x i0).2).1, ((((nth (t := TStep) x i0).2).2).1, (((((nth (t := TStep) x i0).2).2).2).1, (r_1006_2, (r_1007_2, ()))))))); have h := ok_let h y_5_8 rfl; (loopI_next (fun m hm => (show LP12_0 x m _ _ from ⟨hc0, hm⟩)) y_5_8 rfl hl0 low0 ht0 (sm_len h_x) trivial (ok_ret h :)))⟩⟩)⟩)⟩⟩⟩) (fun h => (h trivial)))
 ·rw [vc12 x K]
  exact ⟨rfl, ⟨(Int.natCast_nonneg _), ⟨(sm_limI h_x rfl), (loopI_start (fun m hm => ⟨trivial, hm⟩) (0 : Int) (List.replicate (x.length : Int).toNat ((0 : Int), ((0 : Int), ((0 : Int), ((0 : Int), ([], ([], ()))))))) rfl (Int.natCast_nonneg 0) trivial (ok_then h (fun v0 h hv0 => (ok_ret h :)) (fun _ h => h.elim)))⟩⟩⟩
def c66 : Con := ⟨[.dat TInt, .dat TInt, .dat TInt], fun args hp K => args3 (fun a0 a1 a2 => withD TInt a0 fun n => withD TInt a1 fun low => withD TInt a2 fun high => K (.data Ty.bool (M.inR n low high)) []) args hp, .plain⟩
def cons66 : Cons := []
@[reducible] def C66 : Ctx := ⟨tab, fun t => memN t cmps, cons66, 15, [], 0, false⟩
theorem consOk66 : ConsOk P C66 := by
 exact consOk_nil
def ann66 : Nat → List Dir
 | 0 => [.keep [0, 1, 2]]
 | 1 => [.keep [6]]
 | _ => []
def L66 (n : Int) (low : Int) (high : Int) : Loops := fun id m st_ K => match id with
 | _ => False
theorem vc66 (n : Int) (low : Int) (high : Int) (K : AV → Hp → Prop) : awp C66 (L66 n low high) ann66 (bodyOf f66) ⟨argEnv 0 [.data TInt n, .data TInt low, .data TInt high], []⟩ (outK tab false f66.results.toList (hasBox []) (resK (.dat Ty.bool) K)) =
 (cond ((decide (low ≤ n)) == true) (K (.data Ty.bool (decide (n ≤ high))) []) (K (.data Ty.bool false) [])) := by kernel_rfl
theorem con66_ok : ConOk P 66 c66 := by
 refine con_okR (fn := f66) (code := bodyOf f66) (tab_ok tab_check cmp_check) consOk66 mixed func66 rfl rfl fun args hp K h0 => ?_
 obtain ⟨a0, a1, a2, rfl, rfl, h1⟩ := args3_elim h0
 obtain ⟨n, rfl, h2⟩ := withD_elim h1
 obtain ⟨low, rfl, h3⟩ := withD_elim h2
 obtain ⟨high, rfl, h4⟩ := withD_elim h3
 have hK := h4
 have h : ok (F.impl_between n low high) (fun r => K (.data Ty.bool r) []) := ok_of_eq (F.impl_between_eq n low high) hK
 refine ⟨⟨show (3 : Nat) ≤ 15 by decide, show (3 : Nat) ≤ 1000000 by decide⟩, ann66, (L66 n low high), (.dat Ty.bool), (no_loops (by kernel_rfl)), ?_⟩
 ·rw [vc66 n low high K]
  exact (ok_cond h (fun b_1 h => (ok_ret h :)) (fun b_1 h => (ok_ret h :)))
def c167 : Con := ⟨[.dat TColumn], fun args hp K => args1 (fun a0 => withD TColumn a0 fun c => K (.data Ty.bool (!M.columnOk c)) []) args hp, .plain⟩
def cons167 : Cons := [(66, c66)]
@[reducible] def C167 : Ctx := ⟨tab, fun t => memN t cmps, cons167, 7, [], 0, false⟩
theorem consOk167 : ConsOk P C167 := by
 refine consOk_cons (enter_ok (fn := f66) func66 (by kernel_rfl) rfl) con66_ok ?_
 exact consOk_nil
def ann167 : Nat → List Dir
 | 0 => [.fixRow 1 TColumn, .keep [1]]
 | 1 => [.keep [2]]
 | _ => []
def L167 (c : (TColumn).D) : Loops := fun id m st_ K => match id with
 | _ => False
theorem vc167 (c : (TColumn).D) (K : AV → Hp → Prop) : awp C167 (L167 c) ann167 (bodyOf f167) ⟨argEnv 0 [.data TColumn c], []⟩ (outK tab false f167.results.toList (hasBox []) (resK (.dat Ty.bool) K)) =
 (K (.data Ty.bool (!(M.inR c.1 (1 : Int) (3 : Int)))) []) := by kernel_rfl
theorem con167_ok : ConOk P 167 c167 := by
 refine con_okR (fn := f167) (code := bodyOf f167) (tab_ok tab_check cmp_check) consOk167 mixed func167 rfl rfl fun args hp K h0 => ?_
 obtain ⟨a0, rfl, rfl, h1⟩ := args1_elim h0
 obtain ⟨c, rfl, h2⟩ := withD_elim h1
 have hK := h2
 have h : ok (F.impl_ColumnsOk_1 c) (fun r => K (.data Ty.bool r) []) := ok_of_eq (F.impl_ColumnsOk_1_eq c) hK
 refine ⟨⟨show (1 : Nat) ≤ 7 by decide, show (1 : Nat) ≤ 1000000 by decide⟩, ann167, (L167 c), (.dat Ty.bool), (no_loops (by kernel_rfl)), ?_⟩
 ·rw [vc167 c K]
  exact (ok_ret h :)
def c196 : Con := ⟨[.lent TColumn, .any], fun args hp K => args2 (fun a0 a1 => withB TColumn a0 fun xs => withF 167 a1 (caps0 ((Sm (Ty.sl TColumn) xs) ∧ K (.data TInt (M.idx (t := TColumn) (fun e => !M.columnOk e) xs)) []))) args hp, .plain⟩
def cons196 : Cons := [(167, c167)]
@[reducible] def C196 : Ctx := ⟨tab, fun t => memN t cmps, cons196, 19, [], 0, false⟩
theorem consOk196 : ConsOk P C196 := by
 refine consOk_cons (enter_ok (fn := f167) func167 (by kernel_rfl) rfl) con167_ok ?_
 exact consOk_nil
def ann196 : Nat → List Dir
 | 0 => [.keep [0, 1]]
 | 1 => [.keep [0, 1, 7, 8]]
 | 2 => [.keep [0, 1, 7, 8, 9]]
 | 3 => [.keep [0, 1, 5, 7, 8]]
 | 4 => [.keep [0, 1, 5, 7, 8, 16]]
 | 5 => [.keep [4]]
 | 6 => [.keep [0, 1, 7, 8]]
 | 7 => [.keep [4]]
 | 100000 => [.keep []]
 | _ => []
@[reducible] def LP196_0 (xs : (List (TColumn).D)) (m : Nat) (st_ : St) (K : X → St → Prop) : Prop := (True) ∧ LoopI (fun (i0 : Int) (v0 : Unit) => (⟨[(0, .brw TColumn xs), (1, .fn 167 []), (7, .data TInt (xs.length : Int)), (8, .data TInt i0)], []⟩ : St)) (0 : Int) (xs.length : Int) (F.IndexFunc_impl_ColumnsOk_1_l0 xs) (fun v0 : Unit => True) (outD (fun v0 : Unit => True → K (.exit 0) (⟨[], []⟩ : St)) (fun q0 : Int => K .ret (⟨[(4, .data TInt q0)], []⟩ : St))) m st_
def L196 (xs : (List (TColumn).D)) : Loops := fun id m st_ K => match id with
 | 0 => LP196_0 xs m st_ K
 | _ => False
theorem vc196 (xs : (List (TColumn).D)) (K : AV → Hp → Prop) : awp C196 (L196 xs) ann196 (bodyOf f196) ⟨argEnv 0 [.brw TColumn xs, .fn 167 []], []⟩ (outK tab false f196.results.toList (hasBox []) (resK (.dat TInt) K)) =
 ((∃ m_, (True) ∧ LoopI (fun (i0 : Int) (v0 : Unit) => (⟨[(0, .brw TColumn xs), (1, .fn 167 []), (7, .data TInt (xs.length : Int)), (8, .data TInt i0)], []⟩ : St)) (0 : Int) (xs.length : Int) (F.IndexFunc_impl_ColumnsOk_1_l0 xs) (fun v0 : Unit => True) (outD (fun v0 : Unit => True → K (.data TInt (-1 : Int)) []) (fun q0 : Int => K (.data TInt q0) [])) m_ (⟨[(0, .brw TColumn xs), (1, .fn 167 []), (7, .data TInt (xs.length : Int)), (8, .data TInt (0 : Int))], []⟩ : St))) := by kernel_rfl
theorem lvc196_0 (xs : (List (TColumn).D))  (i0 : Int) (v0 : Unit) (m : Nat) (K : X → St → Prop) : awp C196 (L196 xs) ann196 (loopAt (bodyOf f196) 0) (⟨[(0, .brw TColumn xs), (1, .fn 167 []), (7, .data TInt (xs.length : Int)), (8, .data TInt i0)], []⟩ : St) (thenW (fun s' => ∃ m', m' < m ∧ (L196 xs) 0 m' s' K) (exitN 0 (ann196 (behind 0)) K)) =
 (cond (decide (i0 < (xs.length : Int))) ((0 ≤ i0) ∧ (i0 < (xs.length : Int)) ∧ cond (!M.columnOk (nth (t := TColumn) xs i0)) (K .ret (⟨[(4, .data TInt i0)], []⟩ : St)) ((∃ m_, m_ < m ∧ (L196 xs) 0 m_ (⟨[(0, .brw TColumn xs), (1, .fn 167 []), (7, .data TInt (xs.length : Int)), (8, .data TInt (wrap64 (i0 + (1 : Int))))], []⟩ : St) K))) (K (.exit 0) (⟨[], []⟩ : St))) := by kernel_rfl
theorem con196_ok : ConOk P 196 c196 := by
 refine con_okR (fn := f196) (code := bodyOf f196) (tab_ok tab_check cmp_check) consOk196 mixed func196 rfl rfl fun args hp K h0 => ?_
 obtain ⟨a0, a1, rfl, rfl, h1⟩ := args2_elim h0
 obtain ⟨xs, rfl, h2⟩ := withB_elim h1
 obtain ⟨cs1, rfl, h3⟩ := withF_elim h2
 obtain ⟨rfl, h4⟩ := caps0_elim h3
 obtain ⟨h_xs, hK⟩ := h4
 have h : ok (F.IndexFunc_impl_ColumnsOk_1 xs) (fun r => K (.data TInt r) []) := ok_of_eq (F.IndexFunc_impl_ColumnsOk_1_eq xs h_xs) hK
 refine ⟨⟨show (2 : Nat) ≤ 19 by decide, show (2 : Nat) ≤ 1000000 by decide⟩, ann196, (L196 xs), (.dat TInt), (loopsN1 (i0 := 0) (by kernel_rfl) ?_), ?_⟩
 ·clear h
  intro m_ s_ K_ h
  obtain ⟨hc0, i0, v0, rfl, hl0, rfl, hv0, h⟩ := (show LP196_0 xs m_ s_ K_ from h)
  rw [lvc196_0 xs i0 v0 _ K_]
  exact (loopI_step h (fun ht0 h => ⟨hl0, ⟨ht0, (ok_cond h (fun b_9 h => (ok_ret h :)) (fun b_9 h => (loopI_next (fun m hm => (show LP196_0 xs m _ _ from ⟨hc0, hm⟩)) () rfl hl0 low0 ht0 (sm_len h_xs) trivial (ok_ret h :))))⟩⟩) (fun h => (h trivial)))
 ·rw [vc196 xs K]
  exact (loopI_start (fun m hm => ⟨trivial, hm⟩) (0 : Int) () rfl (Int.natCast_nonneg 0) trivial (ok_then h (fun v0 h hv0 => (ok_ret h :)) (fun q0 h => (ok_ret h :))))
def c166 : Con := ⟨[.lent TColumn, .any], fun args hp K => args2 (fun a0 a1 => withB TColumn a0 fun xs => withF 167 a1 (caps0 ((Sm (Ty.sl TColumn) xs) ∧ K (.data Ty.bool (List.any xs (fun e => !M.columnOk e))) []))) args hp, .plain⟩
def cons166 : Cons := [(167, c167), (196, c196)]
@[reducible] def C166 : Ctx := ⟨tab, fun t => memN t cmps, cons166, 9, [], 0, false⟩
theorem consOk166 : ConsOk P C166 := by
 refine consOk_cons (enter_ok (fn := f167) func167 (by kernel_rfl) rfl) con167_ok ?_
 refine consOk_cons (enter_ok (fn := f196) func196 (by kernel_rfl) rfl) con196_ok ?_
 exact consOk_nil
def ann166 : Nat → List Dir
 | 0 => [.keep [0, 1]]
 | 1 => [.keep [4]]
 | _ => []
def L166 (xs : (List (TColumn).D)) : Loops := fun id m st_ K => match id with
 | _ => False
theorem vc166 (xs : (List (TColumn).D)) (K : AV → Hp → Prop) : awp C166 (L166 xs) ann166 (bodyOf f166) ⟨argEnv 0 [.brw TColumn xs, .fn 167 []], []⟩ (outK tab false f166.results.toList (hasBox []) (resK (.dat Ty.bool) K)) =
 ((Sm (Ty.sl TColumn) xs) ∧ K (.data Ty.bool (decide ((0 : Int) ≤ (M.idx (t := TColumn) (fun e => !M.columnOk e) xs)))) []) := by kernel_rfl
theorem con166_ok : ConOk P 166 c166 := by
 refine con_okR (fn := f166) (code := bodyOf f166) (tab_ok tab_check cmp_check) consOk166 mixed func166 rfl rfl fun args hp K h0 => ?_
 obtain ⟨a0, a1, rfl, rfl, h1⟩ := args2_elim h0
 obtain ⟨xs, rfl, h2⟩ := withB_elim h1
 obtain ⟨cs1, rfl, h3⟩ := withF_elim h2
 obtain ⟨rfl, h4⟩ := caps0_elim h3
 obtain ⟨h_xs, hK⟩ := h4
 have h : ok (F.ContainsFunc_impl_ColumnsOk_1 xs) (fun r => K (.data Ty.bool r) []) := ok_of_eq (F.ContainsFunc_impl_ColumnsOk_1_eq xs h_xs) hK
 refine ⟨⟨show (2 : Nat) ≤ 9 by decide, show (2 : Nat) ≤ 1000000 by decide⟩, ann166, (L166 xs), (.dat Ty.bool), (no_loops (by kernel_rfl)), ?_⟩
 ·rw [vc166 xs K]
  exact ⟨h_xs, (ok_ret h :)⟩
def c131 : Con := ⟨[.dat (Ty.sl TColumn)], fun args hp K => args1 (fun a0 => withD (Ty.sl TColumn) a0 fun columns => (Sm (Ty.sl TColumn) columns) ∧ K (.data Ty.bool (M.columnsOk columns)) []) args hp, .plain⟩
def cons131 : Cons := [(166, c166)]
@[reducible] def C131 : Ctx := ⟨tab, fun t => memN t cmps, cons131, 11, [], 0, false⟩
theorem consOk131 : ConsOk P C131 := by
 refine consOk_cons (enter_ok (fn := f166) func166 (by kernel_rfl) rfl) con166_ok ?_
 exact consOk_nil
def ann131 : Nat → List Dir
 | 0 => [.keep [0]]
 | 1 => [.keep [2]]
 | _ => []
def L131 (columns : (List (TColumn).D)) : Loops := fun id m st_ K => match id with
 | _ => False
theorem vc131 (columns : (List (TColumn).D)) (K : AV → Hp → Prop) : awp C131 (L131 columns) ann131 (bodyOf f131) ⟨argEnv 0 [.data (Ty.sl TColumn) columns], []⟩ (outK tab false f131.results.toList (hasBox []) (resK (.dat Ty.bool) K)) =
 (cond ((decide ((columns.length : Int) ≤ (4 : Int))) == true) ((Sm (Ty.sl TColumn) columns) ∧ K (.data Ty.bool (!(List.any columns (fun e => !M.columnOk e)))) []) (K (.data Ty.bool false) [])) := by kernel_rfl
theorem con131_ok : ConOk P 131 c131 := by
 refine con_okR (fn := f131) (code := bodyOf f131) (tab_ok tab_check cmp_check) consOk131 mixed func131 rfl rfl fun args hp K h0 => ?_
 obtain ⟨a0, rfl, rfl, h1⟩ := args1_elim h0
 obtain ⟨columns, rfl, h2⟩ := withD_elim h1
 obtain ⟨h_columns, hK⟩ := h2
 have h : ok (F.impl_ColumnsOk columns) (fun r => K (.data Ty.bool r) []) := ok_of_eq (F.impl_ColumnsOk_eq columns h_columns) hK
 refine ⟨⟨show (1 : Nat) ≤ 11 by decide, show (1 : Nat) ≤ 1000000 by decide⟩, ann131, (L131 columns), (.dat Ty.bool), (no_loops (by kernel_rfl)), ?_⟩
 ·rw [vc131 columns K]
  exact (ok_cond h (fun b_1 h => ⟨h_columns, (ok_ret h :)⟩) (fun b_1 h => (ok_ret h :)))
def c199 : Con := ⟨[.dat Ty.str], fun args hp K => args1 (fun a0 => withD Ty.str a0 fun s => (Sm Ty.str s) ∧ K (.data Ty.bool (M.lower (byteInts s))) []) args hp, .plain⟩
def cons199 : Cons := [(66, c66)]
@[reducible] def C199 : Ctx := ⟨tab, fun t => memN t cmps, cons199, 17, [], 0, false⟩
theorem consOk199 : ConsOk P C199 := by
 refine consOk_cons (enter_ok (fn := f66) func66 (by kernel_rfl) rfl) con66_ok ?_
 exact consOk_nil
def ann199 : Nat → List Dir
 | 0 => [.keep [0]]
 | 1 => [.keep [6, 7, 8]]
 | 2 => [.keep [6, 7, 8, 9]]
 | 3 => [.keep [4, 6, 7, 8]]
 | 4 => [.keep [6, 7, 8, 15]]
 | 5 => [.keep [2]]
 | 6 => [.keep [6, 7, 8]]
 | 7 => [.keep [2]]
 | 100000 => [.keep []]
 | _ => []
@[reducible] def LP199_0 (s : ByteArray) (m : Nat) (st_ : St) (K : X → St → Prop) : Prop := (True) ∧ LoopE (t := (Ty.int .u8)) (fun (i0 : Int) (v0 : Unit) => (⟨[(6, .data (Ty.sl (Ty.int .u8)) (byteInts s)), (7, .data TInt ((byteInts s).length : Int)), (8, .data TInt i0)], []⟩ : St)) (byteInts s) (F.impl_letters_l0 s) (fun v0 : Unit => True) (outD (fun v0 : Unit => True → K (.exit 0) (⟨[], []⟩ : St)) (fun q0 : Unit => K .ret (⟨[(2, .data Ty.bool false)], []⟩ : St))) m st_
def L199 (s : ByteArray) : Loops := fun id m st_ K => match id with
 | 0 => LP199_0 s m st_ K
 | _ => False
theorem vc199 (s : ByteArray) (K : AV → Hp → Prop) : awp C199 (L199 s) ann199 (bodyOf f199) ⟨argEnv 0 [.data Ty.str s], []⟩ (outK tab false f199.results.toList (hasBox []) (resK (.dat Ty.bool) K)) =
 ((∃ m_, (True) ∧ LoopE (t := (Ty.int .u8)) (fun (i0 : Int) (v0 : Unit) => (⟨[(6, .data (Ty.sl (Ty.int .u8)) (byteInts s)), (7, .data TInt ((byteInts s).length : Int)), (8, .data TInt i0)], []⟩ : St)) (byteInts s) (F.impl_letters_l0 s) (fun v0 : Unit => True) (outD (fun v0 : Unit => True → K (.data Ty.bool true) []) (fun q0 : Unit => K (.data Ty.bool false) [])) m_ (⟨[(6, .data (Ty.sl (Ty.int .u8)) (byteInts s)), (7, .data TInt ((byteInts s).length : Int)), (8, .data TInt (0 : Int))], []⟩ : St))) := by kernel_rfl
theorem lvc199_0 (s : ByteArray)  (i0 : Int) (v0 : Unit) (m : Nat) (K : X → St → Prop) : awp C199 (L199 s) ann199 (loopAt (bodyOf f199) 0) (⟨[(6, .data (Ty.sl (Ty.int .u8)) (byteInts s)), (7, .data TInt ((byteInts s).length : Int)), (8, .data TInt i0)], []⟩ : St) (thenW (fun s' => ∃ m', m' < m ∧ (L199 s) 0 m' s' K) (exitN 0 (ann199 (behind 0)) K)) =
 (cond (decide (i0 < ((byteInts s).length : Int))) ((0 ≤ i0) ∧ (i0 < ((byteInts s).length : Int)) ∧ cond (!(M.inR (wrap64 ((nth (t := (Ty.int .u8)) (byteInts s) i0))) (97 : Int) (122 : Int))) (K .ret (⟨[(2, .data Ty.bool false)], []⟩ : St)) ((∃ m_, m_ < m ∧ (L199 s) 0 m_ (⟨[(6, .data (Ty.sl (Ty.int .u8)) (byteInts s)), (7, .data TInt ((byteInts s).length : Int)), (8, .data TInt (wrap64 (i0 + (1 : Int))))], []⟩ : St) K))) (K (.exit 0) (⟨[], []⟩ : St))) := by kernel_rfl
theorem con199_ok : ConOk P 199 c199 := by
 refine con_okR (fn := f199) (code := bodyOf f199) (tab_ok tab_check cmp_check) consOk199 mixed func199 rfl rfl fun args hp K h0 => ?_
 obtain ⟨a0, rfl, rfl, h1⟩ := args1_elim h0
 obtain ⟨s, rfl, h2⟩ := withD_elim h1
 obtain ⟨h_s, hK⟩ := h2
 have h : ok (F.impl_letters s) (fun r => K (.data Ty.bool r) []) := ok_of_eq (F.impl_letters_eq s h_s) hK
 refine ⟨⟨show (1 : Nat) ≤ 17 by decide, show (1 : Nat) ≤ 1000000 by decide⟩, ann199, (L199 s), (.dat Ty.bool), (loopsN1 (i0 := 0) (by kernel_rfl) ?_), ?_⟩
 ·clear h
  intro m_ s_ K_ h
  obtain ⟨hc0, i0, v0, rfl, hl0, rfl, hv0, h⟩ := (show LP199_0 s m_ s_ K_ from h)
  rw [lvc199_0 s i0 v0 _ K_]
  exact (loopE_step (t := (Ty.int .u8)) hl0 h (fun ht0 h => ⟨hl0, ⟨ht0, (ok_cond h (fun b_9 h => (ok_ret h :)) (fun b_9 h => (loopE_next (t := (Ty.int .u8)) (fun m hm => (show LP199_0 s m _ _ from ⟨hc0, hm⟩)) () rfl hl0 ht0 (sm_len (sm_bytes h_s)) trivial (ok_ret h :))))⟩⟩) (fun h => (h trivial)))
 ·rw [vc199 s K]
  exact (loopE_start (t := (Ty.int .u8)) (fun m hm => ⟨trivial, hm⟩) () rfl trivial (ok_then h (fun v0 h hv0 => (ok_ret h :)) (fun q0 h => (ok_ret h :))))
def c171 : Con := ⟨[.dat TValue], fun args hp K => args1 (fun a0 => withD TValue a0 fun v => (Sm TValue v) ∧ K (.data Ty.bool (M.valueOk v)) []) args hp, .plain⟩
def cons171 : Cons := [(66, c66), (199, c199)]
@[reducible] def C171 : Ctx := ⟨tab, fun t => memN t cmps, cons171, 46, [], 0, false⟩
theorem consOk171 : ConsOk P C171 := by
 refine consOk_cons (enter_ok (fn := f66) func66 (by kernel_rfl) rfl) con66_ok ?_
 refine consOk_cons (enter_ok (fn := f199) func199 (by kernel_rfl) rfl) con199_ok ?_
 exact consOk_nil
def ann171 : Nat → List Dir
 | 0 => [.fixRow 1 TValue, .keep [1]]
 | 1 => [.keep [1, 4]]
 | 2 => [.keep [1, 4, 5]]
 | 3 => [.keep [2]]
 | 4 => [.keep [1, 4, 10]]
 | 5 => [.keep [2]]
 | 6 => [.keep [1, 4, 20]]
 | 7 => [.keep [2]]
 | 8 => [.keep [1, 36]]
 | 9 => [.keep [2]]
 | 10 => [.keep [2]]
 | _ => []
def L171 (v : (TValue).D) : Loops := fun id m st_ K => match id with
 | _ => False
theorem vc171 (v : (TValue).D) (K : AV → Hp → Prop) : awp C171 (L171 v) ann171 (bodyOf f171) ⟨argEnv 0 [.data TValue v], []⟩ (outK tab false f171.results.toList (hasBox []) (resK (.dat Ty.bool) K)) =
 (cond (decide (v.1 = (0 : Int))) (K (.data Ty.bool (Ty.beq TValue v ((0 : Int), ((0 : Int), ((⟨#[]⟩ : ByteArray), ()))))) []) (cond (decide (v.1 = (1 : Int))) (cond ((decide (v.2.2.1 = (⟨#[]⟩ : ByteArray))) == true) (K (.data Ty.bool (M.inR v.2.1 (-9999 : Int) (9999 : Int))) []) (K (.data Ty.bool false) [])) (cond (decide (v.1 = (2 : Int))) (cond ((decide (v.2.1 = (0 : Int))) == true) (cond ((decide ((v.2.2.1.size : Int) ≤ (6 : Int))) == true) ((Sm Ty.str v.2.2.1) ∧ K (.data Ty.bool (M.lower (byteInts v.2.2.1))) []) (K (.data Ty.bool false) [])) (K (.data Ty.bool false) [])) (cond (decide (v.1 = (3 : Int))) (cond ((decide (v.2.2.1 = (⟨#[]⟩ : ByteArray))) == true) (K (.data Ty.bool (M.inR v.2.1 (0 : Int) (1 : Int))) []) (K (.data Ty.bool false) [])) (K (.data Ty.bool false) []))))) := by kernel_rfl
theorem con171_ok : ConOk P 171 c171 := by
 refine con_okR (fn := f171) (code := bodyOf f171) (tab_ok tab_check cmp_check) consOk171 mixed func171 rfl rfl fun args hp K h0 => ?_
 obtain ⟨a0, rfl, rfl, h1⟩ := args1_elim h0
 obtain ⟨v, rfl, h2⟩ := withD_elim h1
 obtain ⟨h_v, hK⟩ := h2
 have h : ok (F.impl_Value_ok v) (fun r => K (.data Ty.bool r) []) := ok_of_eq (F.impl_Value_ok_eq v h_v) hK
 refine ⟨⟨show (1 : Nat) ≤ 46 by decide, show (1 : Nat) ≤ 1000000 by decide⟩, ann171, (L171 v), (.dat Ty.bool), (no_loops (by kernel_rfl)), ?_⟩
 ·rw [vc171 v K]
  exact (ok_cond h (fun b_1 h => (ok_ret h :)) (fun b_1 h => (ok_cond h (fun b_2 h => (ok_cond h (fun b_3 h => (ok_ret h :)) (fun b_3 h => (ok_ret h :)))) (fun b_2 h => (ok_cond h (fun b_4 h => (ok_cond h (fun b_5 h => (ok_cond h (fun b_6 h => ⟨h_v.2.2.1, (ok_ret h :)⟩) (fun b_6 h => (ok_ret h :)))) (fun b_5 h => (ok_ret h :)))) (fun b_4 h => (ok_cond h (fun b_7 h => (ok_cond h (fun b_8 h => (ok_ret h :)) (fun b_8 h => (ok_ret h :)))) (fun b_7 h => (ok_ret h :)))))))))
def c210 : Con := ⟨[.dat TValue], fun args hp K => args1 (fun a0 => withD TValue a0 fun v => (Sm TValue v) ∧ K (.data Ty.bool (!M.valueOk v)) []) args hp, .plain⟩
def cons210 : Cons := [(171, c171)]
@[reducible] def C210 : Ctx := ⟨tab, fun t => memN t cmps, cons210, 6, [], 0, false⟩
theorem consOk210 : ConsOk P C210 := by
 refine consOk_cons (enter_ok (fn := f171) func171 (by kernel_rfl) rfl) con171_ok ?_
 exact consOk_nil
def ann210 : Nat → List Dir
 | 0 => [.fixRow 1 TValue, .keep [1]]
 | 1 => [.keep [2]]
 | _ => []
def L210 (v : (TValue).D) : Loops := fun id m st_ K => match id with
 | _ => False
theorem vc210 (v : (TValue).D) (K : AV → Hp → Prop) : awp C210 (L210 v) ann210 (bodyOf f210) ⟨argEnv 0 [.data TValue v], []⟩ (outK tab false f210.results.toList (hasBox []) (resK (.dat Ty.bool) K)) =
 ((Sm TValue v) ∧ K (.data Ty.bool (!(M.valueOk v))) []) := by kernel_rfl
theorem con210_ok : ConOk P 210 c210 := by
 refine con_okR (fn := f210) (code := bodyOf f210) (tab_ok tab_check cmp_check) consOk210 mixed func210 rfl rfl fun args hp K h0 => ?_
 obtain ⟨a0, rfl, rfl, h1⟩ := args1_elim h0
 obtain ⟨v, rfl, h2⟩ := withD_elim h1
 obtain ⟨h_v, hK⟩ := h2
 have h : ok (F.impl_RowOk_1 v) (fun r => K (.data Ty.bool r) []) := ok_of_eq (F.impl_RowOk_1_eq v h_v) hK
 refine ⟨⟨show (1 : Nat) ≤ 6 by decide, show (1 : Nat) ≤ 1000000 by decide⟩, ann210, (L210 v), (.dat Ty.bool), (no_loops (by kernel_rfl)), ?_⟩
 ·rw [vc210 v K]
  exact ⟨h_v, (ok_ret h :)⟩
def c216 : Con := ⟨[.lent TValue, .any], fun args hp K => args2 (fun a0 a1 => withB TValue a0 fun xs => withF 210 a1 (caps0 ((Sm (Ty.sl TValue) xs) ∧ K (.data TInt (M.idx (t := TValue) (fun e => !M.valueOk e) xs)) []))) args hp, .plain⟩
def cons216 : Cons := [(210, c210)]
@[reducible] def C216 : Ctx := ⟨tab, fun t => memN t cmps, cons216, 19, [], 0, false⟩
theorem consOk216 : ConsOk P C216 := by
 refine consOk_cons (enter_ok (fn := f210) func210 (by kernel_rfl) rfl) con210_ok ?_
 exact consOk_nil
def ann216 : Nat → List Dir
 | 0 => [.keep [0, 1]]
 | 1 => [.keep [0, 1, 7, 8]]
 | 2 => [.keep [0, 1, 7, 8, 9]]
 | 3 => [.keep [0, 1, 5, 7, 8]]
 | 4 => [.keep [0, 1, 5, 7, 8, 16]]
 | 5 => [.keep [4]]
 | 6 => [.keep [0, 1, 7, 8]]
 | 7 => [.keep [4]]
 | 100000 => [.keep []]
 | _ => []
@[reducible] def LP216_0 (xs : (List (TValue).D)) (m : Nat) (st_ : St) (K : X → St → Prop) : Prop := (True) ∧ LoopI (fun (i0 : Int) (v0 : Unit) => (⟨[(0, .brw TValue xs), (1, .fn 210 []), (7, .data TInt (xs.length : Int)), (8, .data TInt i0)], []⟩ : St)) (0 : Int) (xs.length : Int) (F.IndexFunc_impl_RowOk_1_l0 xs) (fun v0 : Unit => True) (outD (fun v0 : Unit => True → K (.exit 0) (⟨[], []⟩ : St)) (fun q0 : Int => K .ret (⟨[(4, .data TInt q0)], []⟩ : St))) m st_
def L216 (xs : (List (TValue).D)) : Loops := fun id m st_ K => match id with
 | 0 => LP216_0 xs m st_ K
 | _ => False
theorem vc216 (xs : (List (TValue).D)) (K : AV → Hp → Prop) : awp C216 (L216 xs) ann216 (bodyOf f216) ⟨argEnv 0 [.brw TValue xs, .fn 210 []], []⟩ (outK tab false f216.results.toList (hasBox []) (resK (.dat TInt) K)) =
 ((∃ m_, (True) ∧ LoopI (fun (i0 : Int) (v0 : Unit) => (⟨[(0, .brw TValue xs), (1, .fn 210 []), (7, .data TInt (xs.length : Int)), (8, .data TInt i0)], []⟩ : St)) (0 : Int) (xs.length : Int) (F.IndexFunc_impl_RowOk_1_l0 xs) (fun v0 : Unit => True) (outD (fun v0 : Unit => True → K (.data TInt (-1 : Int)) []) (fun q0 : Int => K (.data TInt q0) [])) m_ (⟨[(0, .brw TValue xs), (1, .fn 210 []), (7, .data TInt (xs.length : Int)), (8, .data TInt (0 : Int))], []⟩ : St))) := by kernel_rfl
theorem lvc216_0 (xs : (List (TValue).D))  (i0 : Int) (v0 : Unit) (m : Nat) (K : X → St → Prop) : awp C216 (L216 xs) ann216 (loopAt (bodyOf f216) 0) (⟨[(0, .brw TValue xs), (1, .fn 210 []), (7, .data TInt (xs.length : Int)), (8, .data TInt i0)], []⟩ : St) (thenW (fun s' => ∃ m', m' < m ∧ (L216 xs) 0 m' s' K) (exitN 0 (ann216 (behind 0)) K)) =
 (cond (decide (i0 < (xs.length : Int))) ((0 ≤ i0) ∧ (i0 < (xs.length : Int)) ∧ (Sm TValue (nth (t := TValue) xs i0)) ∧ cond (!M.valueOk (nth (t := TValue) xs i0)) (K .ret (⟨[(4, .data TInt i0)], []⟩ : St)) ((∃ m_, m_ < m ∧ (L216 xs) 0 m_ (⟨[(0, .brw TValue xs), (1, .fn 210 []), (7, .data TInt (xs.length : Int)), (8, .data TInt (wrap64 (i0 + (1 : Int))))], []⟩ : St) K))) (K (.exit 0) (⟨[], []⟩ : St))) := by kernel_rfl
theorem con216_ok : ConOk P 216 c216 := by
 refine con_okR (fn := f216) (code := bodyOf f216) (tab_ok tab_check cmp_check) consOk216 mixed func216 rfl rfl fun args hp K h0 => ?_
 obtain ⟨a0, a1, rfl, rfl, h1⟩ := args2_elim h0
 obtain ⟨xs, rfl, h2⟩ := withB_elim h1
 obtain ⟨cs1, rfl, h3⟩ := withF_elim h2
 obtain ⟨rfl, h4⟩ := caps0_elim h3
 obtain ⟨h_xs, hK⟩ := h4
 have h : ok (F.IndexFunc_impl_RowOk_1 xs) (fun r => K (.data TInt r) []) := ok_of_eq (F.IndexFunc_impl_RowOk_1_eq xs h_xs) hK
 refine ⟨⟨show (2 : Nat) ≤ 19 by decide, show (2 : Nat) ≤ 1000000 by decide⟩, ann216, (L216 xs), (.dat TInt), (loopsN1 (i0 := 0) (by kernel_rfl) ?_), ?_⟩
 ·clear h
  intro m_ s_ K_ h
  obtain ⟨hc0, i0, v0, rfl, hl0, rfl, hv0, h⟩ := (show LP216_0 xs m_ s_ K_ from h)
  rw [lvc216_0 xs i0 v0 _ K_]
  exact (loopI_step h (fun ht0 h => ⟨hl0, ⟨ht0, ⟨(sm_nth h_xs i0), (ok_cond h (fun b_9 h => (ok_ret h :)) (fun b_9 h => (loopI_next (fun m hm => (show LP216_0 xs m _ _ from ⟨hc0, hm⟩)) () rfl hl0 low0 ht0 (sm_len h_xs) trivial (ok_ret h :))))⟩⟩⟩) (fun h => (h trivial)))
 ·rw [vc216 xs K]
  exact (loopI_start (fun m hm => ⟨trivial, hm⟩) (0 : Int) () rfl (Int.natCast_nonneg 0) trivial (ok_then h (fun v0 h hv0 => (ok_ret h :)) (fun q0 h => (ok_ret h :))))
def c209 : Con := ⟨[.lent TValue, .any], fun args hp K => args2 (fun a0 a1 => withB TValue a0 fun xs => withF 210 a1 (caps0 ((Sm (Ty.sl TValue) xs) ∧ K (.data Ty.bool (List.any xs (fun e => !M.valueOk e))) []))) args hp, .plain⟩
def cons209 : Cons := [(210, c210), (216, c216)]
@[reducible] def C209 : Ctx := ⟨tab, fun t => memN t cmps, cons209, 9, [], 0, false⟩
theorem consOk209 : ConsOk P C209 := by
 refine consOk_cons (enter_ok (fn := f210) func210 (by kernel_rfl) rfl) con210_ok ?_
 refine consOk_cons (enter_ok (fn := f216) func216 (by kernel_rfl) rfl) con216_ok ?_
 exact consOk_nil
def ann209 : Nat → List Dir
 | 0 => [.keep [0, 1]]
 | 1 => [.keep [4]]
 | _ => []
def L209 (xs : (List (TValue).D)) : Loops := fun id m st_ K => match id with
 | _ => False
theorem vc209 (xs : (List (TValue).D)) (K : AV → Hp → Prop) : awp C209 (L209 xs) ann209 (bodyOf f209) ⟨argEnv 0 [.brw TValue xs, .fn 210 []], []⟩ (outK tab false f209.results.toList (hasBox []) (resK (.dat Ty.bool) K)) =
 ((Sm (Ty.sl TValue) xs) ∧ K (.data Ty.bool (decide ((0 : Int) ≤ (M.idx (t := TValue) (fun e => !M.valueOk e) xs)))) []) := by kernel_rfl
theorem con209_ok : ConOk P 209 c209 := by
 refine con_okR (fn := f209) (code := bodyOf f209) (tab_ok tab_check cmp_check) consOk209 mixed func209 rfl rfl fun args hp K h0 => ?_
 obtain ⟨a0, a1, rfl, rfl, h1⟩ := args2_elim h0
 obtain ⟨xs, rfl, h2⟩ := withB_elim h1
 obtain ⟨cs1, rfl, h3⟩ := withF_elim h2
 obtain ⟨rfl, h4⟩ := caps0_elim h3
 obtain ⟨h_xs, hK⟩ := h4
 have h : ok (F.ContainsFunc_impl_RowOk_1 xs) (fun r => K (.data Ty.bool r) []) := ok_of_eq (F.ContainsFunc_impl_RowOk_1_eq xs h_xs) hK
 refine ⟨⟨show (2 : Nat) ≤ 9 by decide, show (2 : Nat) ≤ 1000000 by decide⟩, ann209, (L209 xs), (.dat Ty.bool), (no_loops (by kernel_rfl)), ?_⟩
 ·rw [vc209 xs K]
  exact ⟨h_xs, (ok_ret h :)⟩
def c198 : Con := ⟨[.dat (Ty.sl TValue)], fun args hp K => args1 (fun a0 => withD (Ty.sl TValue) a0 fun row => (Sm (Ty.sl TValue) row) ∧ K (.data Ty.bool (M.rowOk row)) []) args hp, .plain⟩
def cons198 : Cons := [(209, c209)]
@[reducible] def C198 : Ctx := ⟨tab, fun t => memN t cmps, cons198, 11, [], 0, false⟩
theorem consOk198 : ConsOk P C198 := by
 refine consOk_cons (enter_ok (fn := f209) func209 (by kernel_rfl) rfl) con209_ok ?_
 exact consOk_nil
def ann198 : Nat → List Dir
 | 0 => [.keep [0]]
 | 1 => [.keep [2]]
 | _ => []
def L198 (row : (List (TValue).D)) : Loops := fun id m st_ K => match id with
 | _ => False
theorem vc198 (row : (List (TValue).D)) (K : AV → Hp → Prop) : awp C198 (L198 row) ann198 (bodyOf f198) ⟨argEnv 0 [.data (Ty.sl TValue) row], []⟩ (outK tab false f198.results.toList (hasBox []) (resK (.dat Ty.bool) K)) =
 (cond ((decide ((row.length : Int) ≤ (4 : Int))) == true) ((Sm (Ty.sl TValue) row) ∧ K (.data Ty.bool (!(List.any row (fun e => !M.valueOk e)))) []) (K (.data Ty.bool false) [])) := by kernel_rfl
theorem con198_ok : ConOk P 198 c198 := by
 refine con_okR (fn := f198) (code := bodyOf f198) (tab_ok tab_check cmp_check) consOk198 mixed func198 rfl rfl fun args hp K h0 => ?_
 obtain ⟨a0, rfl, rfl, h1⟩ := args1_elim h0
 obtain ⟨row, rfl, h2⟩ := withD_elim h1
 obtain ⟨h_row, hK⟩ := h2
 have h : ok (F.impl_RowOk row) (fun r => K (.data Ty.bool r) []) := ok_of_eq (F.impl_RowOk_eq row h_row) hK
 refine ⟨⟨show (1 : Nat) ≤ 11 by decide, show (1 : Nat) ≤ 1000000 by decide⟩, ann198, (L198 row), (.dat Ty.bool), (no_loops (by kernel_rfl)), ?_⟩
 ·rw [vc198 row K]
  exact (ok_cond h (fun b_1 h => ⟨h_row, (ok_ret h :)⟩) (fun b_1 h => (ok_ret h :)))
def c170 : Con := ⟨[.dat (Ty.sl TColumn), .dat (Ty.sl TValue)], fun args hp K => args2 (fun a0 a1 => withD (Ty.sl TColumn) a0 fun columns => withD (Ty.sl TValue) a1 fun row => (Sm (Ty.sl TColumn) columns) ∧ (Sm (Ty.sl TValue) row) ∧ K (.data Ty.bool (M.rowFits columns row)) []) args hp, .plain⟩
def cons170 : Cons := [(131, c131), (198, c198)]
@[reducible] def C170 : Ctx := ⟨tab, fun t => memN t cmps, cons170, 51, [], 0, false⟩
theorem consOk170 : ConsOk P C170 := by
 refine consOk_cons (enter_ok (fn := f131) func131 (by kernel_rfl) rfl) con131_ok ?_
 refine consOk_cons (enter_ok (fn := f198) func198 (by kernel_rfl) rfl) con198_ok ?_
 exact consOk_nil
def ann170 : Nat → List Dir
 | 0 => [.keep [0, 1]]
 | 1 => [.keep [0, 1, 21]]
 | 2 => [.keep [4]]
 | 3 => [.keep [0, 22, 23, 24]]
 | 4 => [.keep [0, 22, 23, 24, 25]]
 | 5 => [.fixRow 6 TValue, .keep [0, 5, 6, 22, 23, 24]]
 | 6 => [.keep [0, 22, 23, 24, 49]]
 | 7 => [.keep [4]]
 | 8 => [.keep [0, 22, 23, 24]]
 | 9 => [.keep [4]]
 | 100000 => [.keep []]
 | _ => []
@[reducible] def LP170_0 (columns : (List (TColumn).D)) (row : (List (TValue).D)) (m : Nat) (st_ : St) (K : X → St → Prop) : Prop := (True) ∧ LoopI (fun (i0 : Int) (v0 : Unit) => (⟨[(0, .data (Ty.sl TColumn) columns), (22, .data (Ty.sl TValue) row), (23, .data TInt (row.length : Int)), (24, .data TInt i0)], []⟩ : St)) (0 : Int) (row.length : Int) (F.impl_RowFits_l0 columns row) (fun v0 : Unit => True) (outD (fun v0 : Unit => True → K (.exit 0) (⟨[], []⟩ : St)) (fun q0 : Unit => K .ret (⟨[(4, .data Ty.bool false)], []⟩ : St))) m st_
def L170 (columns : (List (TColumn).D)) (row : (List (TValue).D)) : Loops := fun id m st_ K => match id with
 | 0 => LP170_0 columns row m st_ K
 | _ => False
theorem vc170 (columns : (List (TColumn).D)) (row : (List (TValue).D)) (K : AV → Hp → Prop) : awp C170 (L170 columns row) ann170 (bodyOf f170) ⟨argEnv 0 [.data (Ty.sl TColumn) columns, .data (Ty.sl TValue) row], []⟩ (outK tab false f170.results.toList (hasBox []) (resK (.dat Ty.bool) K)) =
 ((Sm (Ty.sl TColumn) columns) ∧ cond ((!(M.columnsOk columns)) == false) ((Sm (Ty.sl TValue) row) ∧ cond ((!(M.rowOk row)) == false) (cond (!decide ((row.length : Int) = (columns.length : Int))) (K (.data Ty.bool false) []) ((∃ m_, (True) ∧ LoopI (fun (i0 : Int) (v0 : Unit) => (⟨[(0, .data (Ty.sl TColumn) columns), (22, .data (Ty.sl TValue) row), (23, .data TInt (row.length : Int)), (24, .data TInt i0)], []⟩ : St)) (0 : Int) (row.length : Int) (F.impl_RowFits_l0 columns row) (fun v0 : Unit => True) (outD (fun v0 : Unit => True → K (.data Ty.bool true) []) (fun q0 : Unit => K (.data Ty.bool false) [])) m_ (⟨[(0, .data (Ty.sl TColumn) columns), (22, .data (Ty.sl TValue) row), (23, .data TInt (row.length : Int)), (24, .data TInt (0 : Int))], []⟩ : St)))) (K (.data Ty.bool false) [])) (K (.data Ty.bool false) [])) := by kernel_rfl
@[reducible] def S170l0_0 (columns : (List (TColumn).D)) (row : (List (TValue).D))  (i0 : Int) (v0 : Unit) (m : Nat) (K : X → St → Prop) : Prop := (∃ m_, m_ < m ∧ (L170 columns row) 0 m_ (⟨[(0, .data (Ty.sl TColumn) columns), (22, .data (Ty.sl TValue) row), (23, .data TInt (row.length : Int)), (24, .data TInt (wrap64 (i0 + (1 : Int))))], []⟩ : St) K)
theorem lvc170_0 (columns : (List (TColumn).D)) (row : (List (TValue).D))  (i0 : Int) (v0 : Unit) (m : Nat) (K : X → St → Prop) : awp C170 (L170 columns row) ann170 (loopAt (bodyOf f170) 0) (⟨[(0, .data (Ty.sl TColumn) columns), (22, .data (Ty.sl TValue) row), (23, .data TInt (row.length : Int)), (24, .data TInt i0)], []⟩ : St) (thenW (fun s' => ∃ m', m' < m ∧ (L170 columns row) 0 m' s' K) (exitN 0 (ann170 (behind 0)) K)) =
 (cond (decide (i0 < (row.length : Int))) ((0 ≤ i0) ∧ (i0 < (row.length : Int)) ∧ (0 ≤ i0) ∧ (i0 < (columns.length : Int)) ∧ cond ((!decide ((nth (t := TValue) row i0).1 = (nth (t := TColumn) columns i0).1)) == true) (cond ((!decide ((nth (t := TValue) row i0).1 = (0 : Int))) == false) ((0 ≤ i0) ∧ (i0 < (columns.length : Int)) ∧ cond (!(((nth (t := TColumn) columns i0).2).1)) (K .ret (⟨[(4, .data Ty.bool false)], []⟩ : St)) ((S170l0_0  columns row i0 v0 m K))) (K .ret (⟨[(4, .data Ty.bool false)], []⟩ : St))) ((S170l0_0  columns row i0 v0 m K))) (K (.exit 0) (⟨[], []⟩ : St))) := by kernel_rfl
theorem con170_ok : ConOk P 170 c170 := by
 refine con_okR (fn := f170) (code := bodyOf f170) (tab_ok tab_check cmp_check) consOk170 mixed func170 rfl rfl fun args hp K h0 => ?_
 obtain ⟨a0, a1, rfl, rfl, h1⟩ := args2_elim h0
 obtain ⟨columns, rfl, h2⟩ := withD_elim h1
 obtain ⟨row, rfl, h3⟩ := withD_elim h2
 obtain ⟨h_columns, h_row, hK⟩ := h3
 have h : ok (F.impl_RowFits columns row) (fun r => K (.data Ty.bool r) []) := ok_of_eq (F.impl_RowFits_eq columns row h_columns h_row) hK
 refine ⟨⟨show (2 : Nat) ≤ 51 by decide, show (2 : Nat) ≤ 1000000 by decide⟩, ann170, (L170 columns row), (.dat Ty.bool), (loopsN1 (i0 := 0) (by kernel_rfl) ?_), ?_⟩
 ·clear h
  intro m_ s_ K_ h
  obtain ⟨hc0, i0, v0, rfl, hl0, rfl, hv0, h⟩ := (show LP170_0 columns row m_ s_ K_ from h)
  rw [lvc170_0 columns row i0 v0 _ K_]
  exact (loopI_step h (fun ht0 h => ⟨hl0, ⟨ht0, ⟨hl0, ⟨(ok_guard h).1, have g_18 := (ok_guard h).1; have h := (ok_guard h).2; (ok_cond h (fun b_19 h => (ok_cond h (fun b_20 h => ⟨hl0, ⟨g_18, (ok_cond h (fun b_21 h => (ok_ret h :)) (fun b_21 h => (loopI_next (fun m hm => (show LP170_0 columns row m _ _ from ⟨hc0, hm⟩)) () rfl hl0 low0 ht0 (sm_len h_row) trivial (ok_ret h :))))⟩⟩) (fun b_20 h => (ok_ret h :)))) (fun b_19 h => (loopI_next (fun m hm => (show LP170_0 columns row m _ _ from ⟨hc0, hm⟩)) () rfl hl0 low0 ht0 (sm_len h_row) trivial (ok_ret h :))))⟩⟩⟩⟩) (fun h => (h trivial)))
 ·rw [vc170 columns row K]
  exact ⟨h_columns, (ok_cond h (fun b_1 h => ⟨h_row, (ok_cond h (fun b_2 h => (ok_cond h (fun b_3 h => (ok_ret h :)) (fun b_3 h => (loopI_start (fun m hm => ⟨trivial, hm⟩) (0 : Int) () rfl (Int.natCast_nonneg 0) trivial (ok_then h (fun v0 h hv0 => (ok_ret h :)) (fun q0 h => (ok_ret h :))))))) (fun b_2 h => (ok_ret h :)))⟩) (fun b_1 h => (ok_ret h :)))⟩
def c169 : Con := ⟨[.dat (Ty.sl TValue), .any], fun args hp K => args2 (fun a0 a1 => withD (Ty.sl TValue) a0 fun r => withR (Ty.sl TColumn) a1 fun columns => (Sm (Ty.sl TValue) r) ∧ (Sm (Ty.sl TColumn) columns) ∧ K (.data Ty.bool (!M.rowFits columns r)) []) args hp, .plain⟩
def cons169 : Cons := [(170, c170)]
@[reducible] def C169 : Ctx := ⟨tab, fun t => memN t cmps, cons169, 8, [], 0, false⟩
theorem consOk169 : ConsOk P C169 := by
 refine consOk_cons (enter_ok (fn := f170) func170 (by kernel_rfl) rfl) con170_ok ?_
 exact consOk_nil
def ann169 : Nat → List Dir
 | 0 => [.keep [0, 1]]
 | 1 => [.keep [3]]
 | _ => []
def L169 (r : (List (TValue).D)) (columns : (List (TColumn).D)) : Loops := fun id m st_ K => match id with
 | _ => False
theorem vc169 (r : (List (TValue).D)) (columns : (List (TColumn).D)) (K : AV → Hp → Prop) : awp C169 (L169 r columns) ann169 (bodyOf f169) ⟨argEnv 0 [.data (Ty.sl TValue) r, .ref (.data (Ty.sl TColumn) columns)], []⟩ (outK tab false f169.results.toList (hasBox []) (resK (.dat Ty.bool) K)) =
 ((Sm (Ty.sl TColumn) columns) ∧ (Sm (Ty.sl TValue) r) ∧ K (.data Ty.bool (!(M.rowFits columns r))) []) := by kernel_rfl
theorem con169_ok : ConOk P 169 c169 := by
 refine con_okR (fn := f169) (code := bodyOf f169) (tab_ok tab_check cmp_check) consOk169 mixed func169 rfl rfl fun args hp K h0 => ?_
 obtain ⟨a0, a1, rfl, rfl, h1⟩ := args2_elim h0
 obtain ⟨r, rfl, h2⟩ := withD_elim h1
 obtain ⟨columns, rfl, h3⟩ := withR_elim h2
 obtain ⟨h_r, h_columns, hK⟩ := h3
 have h : ok (F.impl_RowsOk_1 r columns) (fun r => K (.data Ty.bool r) []) := ok_of_eq (F.impl_RowsOk_1_eq r columns h_r h_columns) hK
 refine ⟨⟨show (2 : Nat) ≤ 8 by decide, show (2 : Nat) ≤ 1000000 by decide⟩, ann169, (L169 r columns), (.dat Ty.bool), (no_loops (by kernel_rfl)), ?_⟩
 ·rw [vc169 r columns K]
  exact ⟨h_columns, ⟨h_r, (ok_ret h :)⟩⟩
def c197 : Con := ⟨[.lent (Ty.sl TValue), .any], fun args hp K => args2 (fun a0 a1 => withB (Ty.sl TValue) a0 fun xs => withF 169 a1 (caps1 (fun b1_0 => withR (Ty.sl TColumn) b1_0 fun k0 => (Sm (Ty.sl (Ty.sl TValue)) xs) ∧ (Sm (Ty.sl TColumn) k0) ∧ K (.data TInt (M.idx (t := (Ty.sl TValue)) (fun e => !M.rowFits k0 e) xs)) []))) args hp, .plain⟩
def cons197 : Cons := [(169, c169)]
@[reducible] def C197 : Ctx := ⟨tab, fun t => memN t cmps, cons197, 19, [], 0, false⟩
theorem consOk197 : ConsOk P C197 := by
 refine consOk_cons (enter_ok (fn := f169) func169 (by kernel_rfl) rfl) con169_ok ?_
 exact consOk_nil
def ann197 : Nat → List Dir
 | 0 => [.keep [0, 1]]
 | 1 => [.keep [0, 1, 7, 8]]
 | 2 => [.keep [0, 1, 7, 8, 9]]
 | 3 => [.keep [0, 1, 5, 7, 8]]
 | 4 => [.keep [0, 1, 5, 7, 8, 16]]
 | 5 => [.keep [4]]
 | 6 => [.keep [0, 1, 7, 8]]
 | 7 => [.keep [4]]
 | 100000 => [.keep []]
 | _ => []
@[reducible] def LP197_0 (xs : (List (List (TValue).D))) (k0 : (List (TColumn).D)) (m : Nat) (st_ : St) (K : X → St → Prop) : Prop := (True) ∧ LoopI (fun (i0 : Int) (v0 : Unit) => (⟨[(0, .brw (Ty.sl TValue) xs), (1, .fn 169 [.ref (.data (Ty.sl TColumn) k0)]), (7, .data TInt (xs.length : Int)), (8, .data TInt i0)], []⟩ : St)) (0 : Int) (xs.length : Int) (F.IndexFunc_impl_RowsOk_1_l0 xs k0) (fun v0 : Unit => True) (outD (fun v0 : Unit => True → K (.exit 0) (⟨[], []⟩ : St)) (fun q0 : Int => K .ret (⟨[(4, .data TInt q0)], []⟩ : St))) m st_
def L197 (xs : (List (List (TValue).D))) (k0 : (List (TColumn).D)) : Loops := fun id m st_ K => match id with
 | 0 => LP197_0 xs k0 m st_ K
 | _ => False
theorem vc197 (xs : (List (List (TValue).D))) (k0 : (List (TColumn).D)) (K : AV → Hp → Prop) : awp C197 (L197 xs k0) ann197 (bodyOf f197) ⟨argEnv 0 [.brw (Ty.sl TValue) xs, .fn 169 [.ref (.data (Ty.sl TColumn) k0)]], []⟩ (outK tab false f197.results.toList (hasBox []) (resK (.dat TInt) K)) =
 ((∃ m_, (True) ∧ LoopI (fun (i0 : Int) (v0 : Unit) => (⟨[(0, .brw (Ty.sl TValue) xs), (1, .fn 169 [.ref (.data (Ty.sl TColumn) k0)]), (7, .data TInt (xs.length : Int)), (8, .data TInt i0)], []⟩ : St)) (0 : Int) (xs.length : Int) (F.IndexFunc_impl_RowsOk_1_l0 xs k0) (fun v0 : Unit => True) (outD (fun v0 : Unit => True → K (.data TInt (-1 : Int)) []) (fun q0 : Int => K (.data TInt q0) [])) m_ (⟨[(0, .brw (Ty.sl TValue) xs), (1, .fn 169 [.ref (.data (Ty.sl TColumn) k0)]), (7, .data TInt (xs.length : Int)), (8, .data TInt (0 : Int))], []⟩ : St))) := by kernel_rfl
theorem lvc197_0 (xs : (List (List (TValue).D))) (k0 : (List (TColumn).D))  (i0 : Int) (v0 : Unit) (m : Nat) (K : X → St → Prop) : awp C197 (L197 xs k0) ann197 (loopAt (bodyOf f197) 0) (⟨[(0, .brw (Ty.sl TValue) xs), (1, .fn 169 [.ref (.data (Ty.sl TColumn) k0)]), (7, .data TInt (xs.length : Int)), (8, .data TInt i0)], []⟩ : St) (thenW (fun s' => ∃ m', m' < m ∧ (L197 xs k0) 0 m' s' K) (exitN 0 (ann197 (behind 0)) K)) =
 (cond (decide (i0 < (xs.length : Int))) ((0 ≤ i0) ∧ (i0 < (xs.length : Int)) ∧ (Sm (Ty.sl TValue) (nth (t := (Ty.sl TValue)) xs i0)) ∧ (Sm (Ty.sl TColumn) k0) ∧ cond (!M.rowFits k0 (nth (t := (Ty.sl TValue)) xs i0)) (K .ret (⟨[(4, .data TInt i0)], []⟩ : St)) ((∃ m_, m_ < m ∧ (L197 xs k0) 0 m_ (⟨[(0, .brw (Ty.sl TValue) xs), (1, .fn 169 [.ref (.data (Ty.sl TColumn) k0)]), (7, .data TInt (xs.length : Int)), (8, .data TInt (wrap64 (i0 + (1 : Int))))], []⟩ : St) K))) (K (.exit 0) (⟨[], []⟩ : St))) := by kernel_rfl
theorem con197_ok : ConOk P 197 c197 := by
 refine con_okR (fn := f197) (code := bodyOf f197) (tab_ok tab_check cmp_check) consOk197 mixed func197 rfl rfl fun args hp K h0 => ?_
 obtain ⟨a0, a1, rfl, rfl, h1⟩ := args2_elim h0
 obtain ⟨xs, rfl, h2⟩ := withB_elim h1
 obtain ⟨cs1, rfl, h3⟩ := withF_elim h2
 obtain ⟨b1_0, rfl, h4⟩ := caps1_elim h3
 obtain ⟨k0, rfl, h5⟩ := withR_elim h4
 obtain ⟨h_xs, h_k0, hK⟩ := h5
 have h : ok (F.IndexFunc_impl_RowsOk_1 xs k0) (fun r => K (.data TInt r) []) := ok_of_eq (F.IndexFunc_impl_RowsOk_1_eq xs k0 h_xs h_k0) hK
 refine ⟨⟨show (2 : Nat) ≤ 19 by decide, show (2 : Nat) ≤ 1000000 by decide⟩, ann197, (L197 xs k0), (.dat TInt), (loopsN1 (i0 := 0) (by kernel_rfl) ?_), ?_⟩
 ·clear h
  intro m_ s_ K_ h
  obtain ⟨hc0, i0, v0, rfl, hl0, rfl, hv0, h⟩ := (show LP197_0 xs k0 m_ s_ K_ from h)
  rw [lvc197_0 xs k0 i0 v0 _ K_]
  exact (loopI_step h (fun ht0 h => ⟨hl0, ⟨ht0, ⟨(sm_nth h_xs i0), ⟨h_k0, (ok_cond h (fun b_9 h => (ok_ret h :)) (fun b_9 h => (loopI_next (fun m hm => (show LP197_0 xs k0 m _ _ from ⟨hc0, hm⟩)) () rfl hl0 low0 ht0 (sm_len h_xs) trivial (ok_ret h :))))⟩⟩⟩⟩) (fun h => (h trivial)))
 ·rw [vc197 xs k0 K]
  exact (loopI_start (fun m hm => ⟨trivial, hm⟩) (0 : Int) () rfl (Int.natCast_nonneg 0) trivial (ok_then h (fun v0 h hv0 => (ok_ret h :)) (fun q0 h => (ok_ret h :))))
def c168 : Con := ⟨[.lent (Ty.sl TValue), .any], fun args hp K => args2 (fun a0 a1 => withB (Ty.sl TValue) a0 fun xs => withF 169 a1 (caps1 (fun b1_0 => withR (Ty.sl TColumn) b1_0 fun k0 => (Sm (Ty.sl (Ty.sl TValue)) xs) ∧ (Sm (Ty.sl TColumn) k0) ∧ K (.data Ty.bool (List.any xs (fun e => !M.rowFits k0 e))) []))) args hp, .plain⟩
def cons168 : Cons := [(169, c169), (197, c197)]
@[reducible] def C168 : Ctx := ⟨tab, fun t => memN t cmps, cons168, 9, [], 0, false⟩
theorem consOk168 : ConsOk P C168 := by
 refine consOk_cons (enter_ok (fn := f169) func169 (by kernel_rfl) rfl) con169_ok ?_
 refine consOk_cons (enter_ok (fn := f197) func197 (by kernel_rfl) rfl) con197_ok ?_
 exact consOk_nil
def ann168 : Nat → List Dir
 | 0 => [.keep [0, 1]]
 | 1 => [.keep [4]]
 | _ => []
def L168 (xs : (List (List (TValue).D))) (k0 : (List (TColumn).D)) : Loops := fun id m st_ K => match id with
 | _ => False
theorem vc168 (xs : (List (List (TValue).D))) (k0 : (List (TColumn).D)) (K : AV → Hp → Prop) : awp C168 (L168 xs k0) ann168 (bodyOf f168) ⟨argEnv 0 [.brw (Ty.sl TValue) xs, .fn 169 [.ref (.data (Ty.sl TColumn) k0)]], []⟩ (outK tab false f168.results.toList (hasBox []) (resK (.dat Ty.bool) K)) =
 ((Sm (Ty.sl (Ty.sl TValue)) xs) ∧ (Sm (Ty.sl TColumn) k0) ∧ K (.data Ty.bool (decide ((0 : Int) ≤ (M.idx (t := (Ty.sl TValue)) (fun e => !M.rowFits k0 e) xs)))) []) := by kernel_rfl
theorem con168_ok : ConOk P 168 c168 := by
 refine con_okR (fn := f168) (code := bodyOf f168) (tab_ok tab_check cmp_check) consOk168 mixed func168 rfl rfl fun args hp K h0 => ?_
 obtain ⟨a0, a1, rfl, rfl, h1⟩ := args2_elim h0
 obtain ⟨xs, rfl, h2⟩ := withB_elim h1
 obtain ⟨cs1, rfl, h3⟩ := withF_elim h2
 obtain ⟨b1_0, rfl, h4⟩ := caps1_elim h3
 obtain ⟨k0, rfl, h5⟩ := withR_elim h4
 obtain ⟨h_xs, h_k0, hK⟩ := h5
 have h : ok (F.ContainsFunc_impl_RowsOk_1 xs k0) (fun r => K (.data Ty.bool r) []) := ok_of_eq (F.ContainsFunc_impl_RowsOk_1_eq xs k0 h_xs h_k0) hK
 refine ⟨⟨show (2 : Nat) ≤ 9 by decide, show (2 : Nat) ≤ 1000000 by decide⟩, ann168, (L168 xs k0), (.dat Ty.bool), (no_loops (by kernel_rfl)), ?_⟩
 ·rw [vc168 xs k0 K]
  exact ⟨h_xs, ⟨h_k0, (ok_ret h :)⟩⟩
def c132 : Con := ⟨[.dat (Ty.sl TColumn), .dat (Ty.sl (Ty.sl TValue))], fun args hp K => args2 (fun a0 a1 => withD (Ty.sl TColumn) a0 fun columns => withD (Ty.sl (Ty.sl TValue)) a1 fun rows => (Sm (Ty.sl TColumn) columns) ∧ (Sm (Ty.sl (Ty.sl TValue)) rows) ∧ K (.data Ty.bool (M.rowsOk columns rows)) []) args hp, .plain⟩
def cons132 : Cons := [(131, c131), (168, c168), (169, c169)]
@[reducible] def C132 : Ctx := ⟨tab, fun t => memN t cmps, cons132, 13, [], 0, false⟩
theorem consOk132 : ConsOk P C132 := by
 refine consOk_cons (enter_ok (fn := f131) func131 (by kernel_rfl) rfl) con131_ok ?_
 refine consOk_cons (enter_ok (fn := f168) func168 (by kernel_rfl) rfl) con168_ok ?_
 refine consOk_cons (enter_ok (fn := f169) func169 (by kernel_rfl) rfl) con169_ok ?_
 exact consOk_nil
def ann132 : Nat → List Dir
 | 0 => [.fixBox 2, .keep [1, 2]]
 | 1 => [.keep [4]]
 | _ => []
def L132 (columns : (List (TColumn).D)) (rows : (List (List (TValue).D))) : Loops := fun id m st_ K => match id with
 | _ => False
theorem vc132 (columns : (List (TColumn).D)) (rows : (List (List (TValue).D))) (K : AV → Hp → Prop) : awp C132 (L132 columns rows) ann132 (bodyOf f132) ⟨argEnv 0 [.data (Ty.sl TColumn) columns, .data (Ty.sl (Ty.sl TValue)) rows], []⟩ (outK tab false f132.results.toList (hasBox []) (resK (.dat Ty.bool) K)) =
 ((Sm (Ty.sl TColumn) columns) ∧ cond ((M.columnsOk columns) == true) ((Sm (Ty.sl (Ty.sl TValue)) rows) ∧ (Sm (Ty.sl TColumn) columns) ∧ K (.data Ty.bool (!(List.any rows (fun e => !M.rowFits columns e)))) []) (K (.data Ty.bool false) [])) := by kernel_rfl
theorem con132_ok : ConOk P 132 c132 := by
 refine con_okR (fn := f132) (code := bodyOf f132) (tab_ok tab_check cmp_check) consOk132 mixed func132 rfl rfl fun args hp K h0 => ?_
 obtain ⟨a0, a1, rfl, rfl, h1⟩ := args2_elim h0
 obtain ⟨columns, rfl, h2⟩ := withD_elim h1
 obtain ⟨rows, rfl, h3⟩ := withD_elim h2
 obtain ⟨h_columns, h_rows, hK⟩ := h3
 have h : ok (F.impl_RowsOk columns rows) (fun r => K (.data Ty.bool r) []) := ok_of_eq (F.impl_RowsOk_eq columns rows h_columns h_rows) hK
 refine ⟨⟨show (2 : Nat) ≤ 13 by decide, show (2 : Nat) ≤ 1000000 by decide⟩, ann132, (L132 columns rows), (.dat Ty.bool), (no_loops (by kernel_rfl)), ?_⟩
 ·rw [vc132 columns rows K]
  exact ⟨h_columns, (ok_cond h (fun b_1 h => ⟨h_rows, ⟨h_columns, (ok_ret h :)⟩⟩) (fun b_1 h => (ok_ret h :)))⟩
def c130 : Con := ⟨[.dat TTable], fun args hp K => args1 (fun a0 => withD TTable a0 fun t => (Sm TTable t) ∧ K (.data Ty.bool (!M.tableOk t)) []) args hp, .plain⟩
def cons130 : Cons := [(131, c131), (132, c132)]
@[reducible] def C130 : Ctx := ⟨tab, fun t => memN t cmps, cons130, 21, [], 0, false⟩
theorem consOk130 : ConsOk P C130 := by
 refine consOk_cons (enter_ok (fn := f131) func131 (by kernel_rfl) rfl) con131_ok ?_
 refine consOk_cons (enter_ok (fn := f132) func132 (by kernel_rfl) rfl) con132_ok ?_
 exact consOk_nil
def ann130 : Nat → List Dir
 | 0 => [.fixRow 1 TTable, .keep [1]]
 | 1 => [.keep [2]]
 | _ => []
def L130 (t : (TTable).D) : Loops := fun id m st_ K => match id with
 | _ => False
theorem vc130 (t : (TTable).D) (K : AV → Hp → Prop) : awp C130 (L130 t) ann130 (bodyOf f130) ⟨argEnv 0 [.data TTable t], []⟩ (outK tab false f130.results.toList (hasBox []) (resK (.dat Ty.bool) K)) =
 ((Sm (Ty.sl TColumn) t.1) ∧ cond ((!(M.columnsOk t.1)) == false) (cond ((decide ((6 : Int) < (t.2.1.length : Int))) == false) ((Sm (Ty.sl TColumn) t.1) ∧ (Sm (Ty.sl (Ty.sl TValue)) t.2.1) ∧ K (.data Ty.bool (!(M.rowsOk t.1 t.2.1))) []) (K (.data Ty.bool true) [])) (K (.data Ty.bool true) [])) := by kernel_rfl
theorem con130_ok : ConOk P 130 c130 := by
 refine con_okR (fn := f130) (code := bodyOf f130) (tab_ok tab_check cmp_check) consOk130 mixed func130 rfl rfl fun args hp K h0 => ?_
 obtain ⟨a0, rfl, rfl, h1⟩ := args1_elim h0
 obtain ⟨t, rfl, h2⟩ := withD_elim h1
 obtain ⟨h_t, hK⟩ := h2
 have h : ok (F.impl_TablesOk_1 t) (fun r => K (.data Ty.bool r) []) := ok_of_eq (F.impl_TablesOk_1_eq t h_t) hK
 refine ⟨⟨show (1 : Nat) ≤ 21 by decide, show (1 : Nat) ≤ 1000000 by decide⟩, ann130, (L130 t), (.dat Ty.bool), (no_loops (by kernel_rfl)), ?_⟩
 ·rw [vc130 t K]
  exact ⟨h_t.1, (ok_cond h (fun b_1 h => (ok_cond h (fun b_2 h => ⟨h_t.1, ⟨h_t.2.1, (ok_ret h :)⟩⟩) (fun b_2 h => (ok_ret h :)))) (fun b_1 h => (ok_ret h :)))⟩
def c165 : Con := ⟨[.lent TTable, .any], fun args hp K => args2 (fun a0 a1 => withB TTable a0 fun xs => withF 130 a1 (caps0 ((Sm (Ty.sl TTable) xs) ∧ K (.data TInt (M.idx (t := TTable) (fun e => !M.tableOk e) xs)) []))) args hp, .plain⟩
def cons165 : Cons := [(130, c130)]
@[reducible] def C165 : Ctx := ⟨tab, fun t => memN t cmps, cons165, 19, [], 0, false⟩
theorem consOk165 : ConsOk P C165 := by
 refine consOk_cons (enter_ok (fn := f130) func130 (by kernel_rfl) rfl) con130_ok ?_
 exact consOk_nil
def ann165 : Nat → List Dir
 | 0 => [.keep [0, 1]]
 | 1 => [.keep [0, 1, 7, 8]]
 | 2 => [.keep [0, 1, 7, 8, 9]]
 | 3 => [.keep [0, 1, 5, 7, 8]]
 | 4 => [.keep [0, 1, 5, 7, 8, 16]]
 | 5 => [.keep [4]]
 | 6 => [.keep [0, 1, 7, 8]]
 | 7 => [.keep [4]]
 | 100000 => [.keep []]
 | _ => []
@[reducible] def LP165_0 (xs : (List (TTable).D)) (m : Nat) (st_ : St) (K : X → St → Prop) : Prop := (True) ∧ LoopI (fun (i0 : Int) (v0 : Unit) => (⟨[(0, .brw TTable xs), (1, .fn 130 []), (7, .data TInt (xs.length : Int)), (8, .data TInt i0)], []⟩ : St)) (0 : Int) (xs.length : Int) (F.IndexFunc_impl_TablesOk_1_l0 xs) (fun v0 : Unit => True) (outD (fun v0 : Unit => True → K (.exit 0) (⟨[], []⟩ : St)) (fun q0 : Int => K .ret (⟨[(4, .data TInt q0)], []⟩ : St))) m st_
def L165 (xs : (List (TTable).D)) : Loops := fun id m st_ K => match id with
 | 0 => LP165_0 xs m st_ K
 | _ => False
theorem vc165 (xs : (List (TTable).D)) (K : AV → Hp → Prop) : awp C165 (L165 xs) ann165 (bodyOf f165) ⟨argEnv 0 [.brw TTable xs, .fn 130 []], []⟩ (outK tab false f165.results.toList (hasBox []) (resK (.dat TInt) K)) =
 ((∃ m_, (True) ∧ LoopI (fun (i0 : Int) (v0 : Unit) => (⟨[(0, .brw TTable xs), (1, .fn 130 []), (7, .data TInt (xs.length : Int)), (8, .data TInt i0)], []⟩ : St)) (0 : Int) (xs.length : Int) (F.IndexFunc_impl_TablesOk_1_l0 xs) (fun v0 : Unit => True) (outD (fun v0 : Unit => True → K (.data TInt (-1 : Int)) []) (fun q0 : Int => K (.data TInt q0) [])) m_ (⟨[(0, .brw TTable xs), (1, .fn 130 []), (7, .data TInt (xs.length : Int)), (8, .data TInt (0 : Int))], []⟩ : St))) := by kernel_rfl
theorem lvc165_0 (xs : (List (TTable).D))  (i0 : Int) (v0 : Unit) (m : Nat) (K : X → St → Prop) : awp C165 (L165 xs) ann165 (loopAt (bodyOf f165) 0) (⟨[(0, .brw TTable xs), (1, .fn 130 []), (7, .data TInt (xs.length : Int)), (8, .data TInt i0)], []⟩ : St) (thenW (fun s' => ∃ m', m' < m ∧ (L165 xs) 0 m' s' K) (exitN 0 (ann165 (behind 0)) K)) =
 (cond (decide (i0 < (xs.length : Int))) ((0 ≤ i0) ∧ (i0 < (xs.length : Int)) ∧ (Sm TTable (nth (t := TTable) xs i0)) ∧ cond (!M.tableOk (nth (t := TTable) xs i0)) (K .ret (⟨[(4, .data TInt i0)], []⟩ : St)) ((∃ m_, m_ < m ∧ (L165 xs) 0 m_ (⟨[(0, .brw TTable xs), (1, .fn 130 []), (7, .data TInt (xs.length : Int)), (8, .data TInt (wrap64 (i0 + (1 : Int))))], []⟩ : St) K))) (K (.exit 0) (⟨[], []⟩ : St))) := by kernel_rfl
theorem con165_ok : ConOk P 165 c165 := by
 refine con_okR (fn := f165) (code := bodyOf f165) (tab_ok tab_check cmp_check) consOk165 mixed func165 rfl rfl fun args hp K h0 => ?_
 obtain ⟨a0, a1, rfl, rfl, h1⟩ := args2_elim h0
 obtain ⟨xs, rfl, h2⟩ := withB_elim h1
 obtain ⟨cs1, rfl, h3⟩ := withF_elim h2
 obtain ⟨rfl, h4⟩ := caps0_elim h3
 obtain ⟨h_xs, hK⟩ := h4
 have h : ok (F.IndexFunc_impl_TablesOk_1 xs) (fun r => K (.data TInt r) []) := ok_of_eq (F.IndexFunc_impl_TablesOk_1_eq xs h_xs) hK
 refine ⟨⟨show (2 : Nat) ≤ 19 by decide, show (2 : Nat) ≤ 1000000 by decide⟩, ann165, (L165 xs), (.dat TInt), (loopsN1 (i0 := 0) (by kernel_rfl) ?_), ?_⟩
 ·clear h
  intro m_ s_ K_ h
  obtain ⟨hc0, i0, v0, rfl, hl0, rfl, hv0, h⟩ := (show LP165_0 xs m_ s_ K_ from h)
  rw [lvc165_0 xs i0 v0 _ K_]
  exact (loopI_step h (fun ht0 h => ⟨hl0, ⟨ht0, ⟨(sm_nth h_xs i0), (ok_cond h (fun b_9 h => (ok_ret h :)) (fun b_9 h => (loopI_next (fun m hm => (show LP165_0 xs m _ _ from ⟨hc0, hm⟩)) () rfl hl0 low0 ht0 (sm_len h_xs) trivial (ok_ret h :))))⟩⟩⟩) (fun h => (h trivial)))
 ·rw [vc165 xs K]
  exact (loopI_start (fun m hm => ⟨trivial, hm⟩) (0 : Int) () rfl (Int.natCast_nonneg 0) trivial (ok_then h (fun v0 h hv0 => (ok_ret h :)) (fun q0 h => (ok_ret h :))))
def c129 : Con := ⟨[.lent TTable, .any], fun args hp K => args2 (fun a0 a1 => withB TTable a0 fun xs => withF 130 a1 (caps0 ((Sm (Ty.sl TTable) xs) ∧ K (.data Ty.bool (List.any xs (fun e => !M.tableOk e))) []))) args hp, .plain⟩
def cons129 : Cons := [(130, c130), (165, c165)]
@[reducible] def C129 : Ctx := ⟨tab, fun t => memN t cmps, cons129, 9, [], 0, false⟩
theorem consOk129 : ConsOk P C129 := by
 refine consOk_cons (enter_ok (fn := f130) func130 (by kernel_rfl) rfl) con130_ok ?_
 refine consOk_cons (enter_ok (fn := f165) func165 (by kernel_rfl) rfl) con165_ok ?_
 exact consOk_nil
def ann129 : Nat → List Dir
 | 0 => [.keep [0, 1]]
 | 1 => [.keep [4]]
 | _ => []
def L129 (xs : (List (TTable).D)) : Loops := fun id m st_ K => match id with
 | _ => False
theorem vc129 (xs : (List (TTable).D)) (K : AV → Hp → Prop) : awp C129 (L129 xs) ann129 (bodyOf f129) ⟨argEnv 0 [.brw TTable xs, .fn 130 []], []⟩ (outK tab false f129.results.toList (hasBox []) (resK (.dat Ty.bool) K)) =
 ((Sm (Ty.sl TTable) xs) ∧ K (.data Ty.bool (decide ((0 : Int) ≤ (M.idx (t := TTable) (fun e => !M.tableOk e) xs)))) []) := by kernel_rfl
theorem con129_ok : ConOk P 129 c129 := by
 refine con_okR (fn := f129) (code := bodyOf f129) (tab_ok tab_check cmp_check) consOk129 mixed func129 rfl rfl fun args hp K h0 => ?_
 obtain ⟨a0, a1, rfl, rfl, h1⟩ := args2_elim h0
 obtain ⟨xs, rfl, h2⟩ := withB_elim h1
 obtain ⟨cs1, rfl, h3⟩ := withF_elim h2
 obtain ⟨rfl, h4⟩ := caps0_elim h3
 obtain ⟨h_xs, hK⟩ := h4
 have h : ok (F.ContainsFunc_impl_TablesOk_1 xs) (fun r => K (.data Ty.bool r) []) := ok_of_eq (F.ContainsFunc_impl_TablesOk_1_eq xs h_xs) hK
 refine ⟨⟨show (2 : Nat) ≤ 9 by decide, show (2 : Nat) ≤ 1000000 by decide⟩, ann129, (L129 xs), (.dat Ty.bool), (no_loops (by kernel_rfl)), ?_⟩
 ·rw [vc129 xs K]
  exact ⟨h_xs, (ok_ret h :)⟩
def c99 : Con := ⟨[.dat (Ty.sl TTable)], fun args hp K => args1 (fun a0 => withD (Ty.sl TTable) a0 fun tables => (Sm (Ty.sl TTable) tables) ∧ K (.data Ty.bool (M.tablesOk tables)) []) args hp, .plain⟩
def cons99 : Cons := [(129, c129)]
@[reducible] def C99 : Ctx := ⟨tab, fun t => memN t cmps, cons99, 11, [], 0, false⟩
theorem consOk99 : ConsOk P C99 := by
 refine consOk_cons (enter_ok (fn := f129) func129 (by kernel_rfl) rfl) con129_ok ?_
 exact consOk_nil
def ann99 : Nat → List Dir
 | 0 => [.keep [0]]
 | 1 => [.keep [2]]
 | _ => []
def L99 (tables : (List (TTable).D)) : Loops := fun id m st_ K => match id with
 | _ => False
theorem vc99 (tables : (List (TTable).D)) (K : AV → Hp → Prop) : awp C99 (L99 tables) ann99 (bodyOf f99) ⟨argEnv 0 [.data (Ty.sl TTable) tables], []⟩ (outK tab false f99.results.toList (hasBox []) (resK (.dat Ty.bool) K)) =
 (cond ((decide ((tables.length : Int) ≤ (3 : Int))) == true) ((Sm (Ty.sl TTable) tables) ∧ K (.data Ty.bool (!(List.any tables (fun e => !M.tableOk e)))) []) (K (.data Ty.bool false) [])) := by kernel_rfl
theorem con99_ok : ConOk P 99 c99 := by
 refine con_okR (fn := f99) (code := bodyOf f99) (tab_ok tab_check cmp_check) consOk99 mixed func99 rfl rfl fun args hp K h0 => ?_
 obtain ⟨a0, rfl, rfl, h1⟩ := args1_elim h0
 obtain ⟨tables, rfl, h2⟩ := withD_elim h1
 obtain ⟨h_tables, hK⟩ := h2
 have h : ok (F.impl_TablesOk tables) (fun r => K (.data Ty.bool r) []) := ok_of_eq (F.impl_TablesOk_eq tables h_tables) hK
 refine ⟨⟨show (1 : Nat) ≤ 11 by decide, show (1 : Nat) ≤ 1000000 by decide⟩, ann99, (L99 tables), (.dat Ty.bool), (no_loops (by kernel_rfl)), ?_⟩
 ·rw [vc99 tables K]
  exact (ok_cond h (fun b_1 h => ⟨h_tables, (ok_ret h :)⟩) (fun b_1 h => (ok_ret h :)))
def c133 : Con := ⟨[.dat TPart], fun args hp K => args1 (fun a0 => withD TPart a0 fun p => (Sm TPart p) ∧ K (.data TInt (M.takes p)) []) args hp, .plain⟩
def cons133 : Cons := []
@[reducible] def C133 : Ctx := ⟨tab, fun t => memN t cmps, cons133, 13, [], 0, false⟩
theorem consOk133 : ConsOk P C133 := by
 exact consOk_nil
def ann133 : Nat → List Dir
 | 0 => [.fixRow 1 TPart, .keep [1]]
 | 1 => [.keep [4]]
 | 2 => [.keep [4, 5]]
 | 3 => [.keep [4, 5]]
 | 4 => [.keep [4, 5]]
 | 5 => [.keep [4, 5]]
 | 6 => [.keep [2]]
 | 7 => [.keep [4, 10]]
 | 8 => [.keep [10]]
 | 9 => [.keep [2]]
 | 10 => [.keep [2]]
 | _ => []
def L133 (p : (TPart).D) : Loops := fun id m st_ K => match id with
 | _ => False
@[reducible] def S133_0 (p : (TPart).D) (K : AV → Hp → Prop) : Prop := cond (decide (p.1 = (7 : Int))) (cond (decide (p.1 = (7 : Int))) (K (.data TInt (1 : Int)) []) (K (.data TInt (0 : Int)) [])) (cond (decide (p.1 = (8 : Int))) (K (.data TInt (1 : Int)) []) (K (.data TInt (0 : Int)) []))
theorem vc133 (p : (TPart).D) (K : AV → Hp → Prop) : awp C133 (L133 p) ann133 (bodyOf f133) ⟨argEnv 0 [.data TPart p], []⟩ (outK tab false f133.results.toList (hasBox []) (resK (.dat TInt) K)) =
 (cond (decide (p.1 = (3 : Int))) (cond (decide (p.1 = (3 : Int))) (K (.data TInt (2 : Int)) []) ((S133_0 p K))) (cond (decide (p.1 = (4 : Int))) (cond (decide (p.1 = (4 : Int))) (K (.data TInt (2 : Int)) []) ((S133_0 p K))) (cond (decide (p.1 = (5 : Int))) (cond (decide (p.1 = (5 : Int))) (K (.data TInt (2 : Int)) []) ((S133_0 p K))) (cond (decide (p.1 = (6 : Int))) (K (.data TInt (2 : Int)) []) ((S133_0 p K)))))) := by kernel_rfl
theorem con133_ok : ConOk P 133 c133 := by
 refine con_okR (fn := f133) (code := bodyOf f133) (tab_ok tab_check cmp_check) consOk133 mixed func133 rfl rfl fun args hp K h0 => ?_
 obtain ⟨a0, rfl, rfl, h1⟩ := args1_elim h0
 obtain ⟨p, rfl, h2⟩ := withD_elim h1
 obtain ⟨h_p, hK⟩ := h2
 have h : ok (F.impl_Part_takes p) (fun r => K (.data TInt r) []) := ok_of_eq (F.impl_Part_takes_eq p h_p) hK
 refine ⟨⟨show (1 : Nat) ≤ 13 by decide, show (1 : Nat) ≤ 1000000 by decide⟩, ann133, (L133 p), (.dat TInt), (no_loops (by kernel_rfl)), ?_⟩
 ·rw [vc133 p K]
  exact (ok_cond h (fun b_1 h => (cond_t b_1 (ok_ret h :))) (fun b_1 h => (ok_cond h (fun b_6 h => (cond_t b_6 (ok_ret h :))) (fun b_6 h => (ok_cond h (fun b_11 h => (cond_t b_11 (ok_ret h :))) (fun b_11 h => (ok_cond h (fun b_16 h => (ok_ret h :)) (fun b_16 h => (ok_cond h (fun b_17 h => (cond_t b_17 (ok_ret h :))) (fun b_17 h => (ok_cond h (fun b_19 h => (ok_ret h :)) (fun b_19 h => (ok_ret h :)))))))))))))
def c134 : Con := ⟨[.dat TPart, .dat (Ty.sl TColumn)], fun args hp K => args2 (fun a0 a1 => withD TPart a0 fun p => withD (Ty.sl TColumn) a1 fun columns => (Sm TPart p) ∧ (Sm (Ty.sl TColumn) columns) ∧ K (.data Ty.bool (M.tells p columns)) []) args hp, .plain⟩
def cons134 : Cons := [(66, c66), (171, c171)]
@[reducible] def C134 : Ctx := ⟨tab, fun t => memN t cmps, cons134, 63, [], 0, false⟩
theorem consOk134 : ConsOk P C134 := by
 refine consOk_cons (enter_ok (fn := f66) func66 (by kernel_rfl) rfl) con66_ok ?_
 refine consOk_cons (enter_ok (fn := f171) func171 (by kernel_rfl) rfl) con171_ok ?_
 exact consOk_nil
def ann134 : Nat → List Dir
 | 0 => [.fixRow 2 TPart, .keep [1, 2]]
 | 1 => [.keep [1, 2, 6]]
 | 2 => [.keep [1, 2, 6, 7]]
 | 3 => [.keep [4]]
 | 4 => [.keep [1, 2, 6, 23]]
 | 5 => [.keep [4]]
 | 6 => [.keep [2, 6, 37]]
 | 7 => [.keep [4]]
 | 8 => [.keep [2, 6, 48]]
 | 9 => [.keep [2, 6, 48]]
 | 10 => [.keep [2, 6, 48]]
 | 11 => [.keep [2, 6, 48]]
 | 12 => [.keep [2, 48]]
 | 13 => [.keep [4]]
 | 14 => [.keep [4]]
 | _ => []
def L134 (p : (TPart).D) (columns : (List (TColumn).D)) : Loops := fun id m st_ K => match id with
 | _ => False
@[reducible] def S134_0 (p : (TPart).D) (columns : (List (TColumn).D)) (K : AV → Hp → Prop) : Prop := cond ((decide (p.2.1 = (0 : Int))) == true) (K (.data Ty.bool (Ty.beq TValue p.2.2.1 ((0 : Int), ((0 : Int), ((⟨#[]⟩ : ByteArray), ()))))) []) (K (.data Ty.bool false) [])
theorem vc134 (p : (TPart).D) (columns : (List (TColumn).D)) (K : AV → Hp → Prop) : awp C134 (L134 p columns) ann134 (bodyOf f134) ⟨argEnv 0 [.data TPart p, .data (Ty.sl TColumn) columns], []⟩ (outK tab false f134.results.toList (hasBox []) (resK (.dat Ty.bool) K)) =
 (cond (decide (p.1 = (1 : Int))) (cond ((decide (p.2.1 = (0 : Int))) == true) ((Sm TValue p.2.2.1) ∧ cond ((M.valueOk p.2.2.1) == true) (K (.data Ty.bool (!decide (p.2.2.1.1 = (0 : Int)))) []) (K (.data Ty.bool false) [])) (K (.data Ty.bool false) [])) (cond (decide (p.1 = (2 : Int))) (cond ((M.inR p.2.1 (0 : Int) (wrap64 ((columns.length : Int) - (1 : Int)))) == true) (K (.data Ty.bool (Ty.beq TValue p.2.2.1 ((0 : Int), ((0 : Int), ((⟨#[]⟩ : ByteArray), ()))))) []) (K (.data Ty.bool false) [])) (cond (decide (p.1 = (4 : Int))) (cond ((M.inR p.2.1 (1 : Int) (4 : Int)) == true) (K (.data Ty.bool (Ty.beq TValue p.2.2.1 ((0 : Int), ((0 : Int), ((⟨#[]⟩ : ByteArray), ()))))) []) (K (.data Ty.bool false) [])) (cond (decide (p.1 = (3 : Int))) (cond (decide (p.1 = (3 : Int))) ((S134_0 p columns K)) (K (.data Ty.bool false) [])) (cond (decide (p.1 = (5 : Int))) (cond (decide (p.1 = (5 : Int))) ((S134_0 p columns K)) (K (.data Ty.bool false) [])) (cond (decide (p.1 = (6 : Int))) (cond (decide (p.1 = (6 : Int))) ((S134_0 p columns K)) (K (.data Ty.bool false) [])) (cond (decide (p.1 = (7 : Int))) (cond (decide (p.1 = (7 : Int))) ((S134_0 p columns K)) (K (.data Ty.bool false) [])) (cond (decide (p.1 = (8 : Int))) ((S134_0 p columns K)) (K (.data Ty.bool false) []))))))))) := by kernel_rfl
theorem con134_ok : ConOk P 134 c134 := by
 refine con_okR (fn := f134) (code := bodyOf f134) (tab_ok tab_check cmp_check) consOk134 mixed func134 rfl rfl fun args hp K h0 => ?_
 obtain ⟨a0, a1, rfl, rfl, h1⟩ := args2_elim h0
 obtain ⟨p, rfl, h2⟩ := withD_elim h1
 obtain ⟨columns, rfl, h3⟩ := withD_elim h2
 obtain ⟨h_p, h_columns, hK⟩ := h3
 have h : ok (F.impl_Part_tells p columns) (fun r => K (.data Ty.bool r) []) := ok_of_eq (F.impl_Part_tells_eq p columns h_p h_columns) hK
 refine ⟨⟨show (2 : Nat) ≤ 63 by decide, show (2 : Nat) ≤ 1000000 by decide⟩, ann134, (L134 p columns), (.dat Ty.bool), (no_loops (by kernel_rfl)), ?_⟩
 ·rw [vc134 p columns K]
  exact (ok_cond h (fun b_1 h => (ok_cond h (fun b_2 h => ⟨h_p.2.2.1, (ok_cond h (fun b_3 h => (ok_ret h :)) (fun b_3 h => (ok_ret h :)))⟩) (fun b_2 h => (ok_ret h :)))) (fun b_1 h => (ok_cond h (fun b_4 h => (ok_cond h (fun b_5 h => (ok_ret h :)) (fun b_5 h => (ok_ret h :)))) (fun b_4 h => (ok_cond h (fun b_6 h => (ok_cond h (fun b_7 h => (ok_ret h :)) (fun b_7 h => (ok_ret h :)))) (fun b_6 h => (ok_cond h (fun b_8 h => (cond_t b_8 (ok_cond h (fun b_10 h => (ok_ret h :)) (fun b_10 h => (ok_ret h :))))) (fun b_8 h => (ok_cond h (fun b_11 h => (cond_t b_11 (ok_cond h (fun b_13 h => (ok_ret h :)) (fun b_13 h => (ok_ret h :))))) (fun b_11 h => (ok_cond h (fun b_14 h => (cond_t b_14 (ok_cond h (fun b_16 h => (ok_ret h :)) (fun b_16 h => (ok_ret h :))))) (fun b_14 h => (ok_cond h (fun b_17 h => (cond_t b_17 (ok_cond h (fun b_19 h => (ok_ret h :)) (fun b_19 h => (ok_ret h :))))) (fun b_17 h => (ok_cond h (fun b_20 h => (ok_cond h (fun b_21 h => (ok_ret h :)) (fun b_21 h => (ok_ret h :)))) (fun b_20 h => (ok_ret h :)))))))))))))))))
def c174 : Con := ⟨[.dat TInt, .any], fun args hp K => args2 (fun a0 a1 => withD TInt a0 fun k => withR TInt a1 fun kind => K (.data Ty.bool (!decide (k = kind))) []) args hp, .plain⟩
def cons174 : Cons := []
@[reducible] def C174 : Ctx := ⟨tab, fun t => memN t cmps, cons174, 7, [], 0, false⟩
theorem consOk174 : ConsOk P C174 := by
 exact consOk_nil
def ann174 : Nat → List Dir
 | 0 => [.keep [0, 1]]
 | 1 => [.keep [3]]
 | _ => []
def L174 (k : Int) (kind : Int) : Loops := fun id m st_ K => match id with
 | _ => False
theorem vc174 (k : Int) (kind : Int) (K : AV → Hp → Prop) : awp C174 (L174 k kind) ann174 (bodyOf f174) ⟨argEnv 0 [.data TInt k, .ref (.data TInt kind)], []⟩ (outK tab false f174.results.toList (hasBox []) (resK (.dat Ty.bool) K)) =
 (K (.data Ty.bool (!decide (k = kind))) []) := by kernel_rfl
theorem con174_ok : ConOk P 174 c174 := by
 refine con_okR (fn := f174) (code := bodyOf f174) (tab_ok tab_check cmp_check) consOk174 mixed func174 rfl rfl fun args hp K h0 => ?_
 obtain ⟨a0, a1, rfl, rfl, h1⟩ := args2_elim h0
 obtain ⟨k, rfl, h2⟩ := withD_elim h1
 obtain ⟨kind, rfl, h3⟩ := withR_elim h2
 have hK := h3
 have h : ok (F.impl_Part_kind_1_1 k kind) (fun r => K (.data Ty.bool r) []) := ok_of_eq (F.impl_Part_kind_1_1_eq k kind) hK
 refine ⟨⟨show (2 : Nat) ≤ 7 by decide, show (2 : Nat) ≤ 1000000 by decide⟩, ann174, (L174 k kind), (.dat Ty.bool), (no_loops (by kernel_rfl)), ?_⟩
 ·rw [vc174 k kind K]
  exact (ok_ret h :)
def c200 : Con := ⟨[.lent TInt, .any], fun args hp K => args2 (fun a0 a1 => withB TInt a0 fun xs => withF 174 a1 (caps1 (fun b1_0 => withR TInt b1_0 fun k0 => (Sm (Ty.sl TInt) xs) ∧ K (.data TInt (M.idx (t := TInt) (fun e => !decide (e = k0)) xs)) []))) args hp, .plain⟩
def cons200 : Cons := [(174, c174)]
@[reducible] def C200 : Ctx := ⟨tab, fun t => memN t cmps, cons200, 19, [], 0, false⟩
theorem consOk200 : ConsOk P C200 := by
 refine consOk_cons (enter_ok (fn := f174) func174 (by kernel_rfl) rfl) con174_ok ?_
 exact consOk_nil
def ann200 : Nat → List Dir
 | 0 => [.keep [0, 1]]
 | 1 => [.keep [0, 1, 7, 8]]
 | 2 => [.keep [0, 1, 7, 8, 9]]
 | 3 => [.keep [0, 1, 5, 7, 8]]
 | 4 => [.keep [0, 1, 5, 7, 8, 16]]
 | 5 => [.keep [4]]
 | 6 => [.keep [0, 1, 7, 8]]
 | 7 => [.keep [4]]
 | 100000 => [.keep []]
 | _ => []
@[reducible] def LP200_0 (xs : (List Int)) (k0 : Int) (m : Nat) (st_ : St) (K : X → St → Prop) : Prop := (True) ∧ LoopI (fun (i0 : Int) (v0 : Unit) => (⟨[(0, .brw TInt xs), (1, .fn 174 [.ref (.data TInt k0)]), (7, .data TInt (xs.length : Int)), (8, .data TInt i0)], []⟩ : St)) (0 : Int) (xs.length : Int) (F.IndexFunc_impl_Part_kind_1_1_l0 xs k0) (fun v0 : Unit => True) (outD (fun v0 : Unit => True → K (.exit 0) (⟨[], []⟩ : St)) (fun q0 : Int => K .ret (⟨[(4, .data TInt q0)], []⟩ : St))) m st_
def L200 (xs : (List Int)) (k0 : Int) : Loops := fun id m st_ K => match id with
 | 0 => LP200_0 xs k0 m st_ K
 | _ => False
theorem vc200 (xs : (List Int)) (k0 : Int) (K : AV → Hp → Prop) : awp C200 (L200 xs k0) ann200 (bodyOf f200) ⟨argEnv 0 [.brw TInt xs, .fn 174 [.ref (.data TInt k0)]], []⟩ (outK tab false f200.results.toList (hasBox []) (resK (.dat TInt) K)) =
 ((∃ m_, (True) ∧ LoopI (fun (i0 : Int) (v0 : Unit) => (⟨[(0, .brw TInt xs), (1, .fn 174 [.ref (.data TInt k0)]), (7, .data TInt (xs.length : Int)), (8, .data TInt i0)], []⟩ : St)) (0 : Int) (xs.length : Int) (F.IndexFunc_impl_Part_kind_1_1_l0 xs k0) (fun v0 : Unit => True) (outD (fun v0 : Unit => True → K (.data TInt (-1 : Int)) []) (fun q0 : Int => K (.data TInt q0) [])) m_ (⟨[(0, .brw TInt xs), (1, .fn 174 [.ref (.data TInt k0)]), (7, .data TInt (xs.length : Int)), (8, .data TInt (0 : Int))], []⟩ : St))) := by kernel_rfl
theorem lvc200_0 (xs : (List Int)) (k0 : Int)  (i0 : Int) (v0 : Unit) (m : Nat) (K : X → St → Prop) : awp C200 (L200 xs k0) ann200 (loopAt (bodyOf f200) 0) (⟨[(0, .brw TInt xs), (1, .fn 174 [.ref (.data TInt k0)]), (7, .data TInt (xs.length : Int)), (8, .data TInt i0)], []⟩ : St) (thenW (fun s' => ∃ m', m' < m ∧ (L200 xs k0) 0 m' s' K) (exitN 0 (ann200 (behind 0)) K)) =
 (cond (decide (i0 < (xs.length : Int))) ((0 ≤ i0) ∧ (i0 < (xs.length : Int)) ∧ cond (!decide ((nth (t := TInt) xs i0) = k0)) (K .ret (⟨[(4, .data TInt i0)], []⟩ : St)) ((∃ m_, m_ < m ∧ (L200 xs k0) 0 m_ (⟨[(0, .brw TInt xs), (1, .fn 174 [.ref (.data TInt k0)]), (7, .data TInt (xs.length : Int)), (8, .data TInt (wrap64 (i0 + (1 : Int))))], []⟩ : St) K))) (K (.exit 0) (⟨[], []⟩ : St))) := by kernel_rfl
theorem con200_ok : ConOk P 200 c200 := by
 refine con_okR (fn := f200) (code := bodyOf f200) (tab_ok tab_check cmp_check) consOk200 mixed func200 rfl rfl fun args hp K h0 => ?_
 obtain ⟨a0, a1, rfl, rfl, h1⟩ := args2_elim h0
 obtain ⟨xs, rfl, h2⟩ := withB_elim h1
 obtain ⟨cs1, rfl, h3⟩ := withF_elim h2
 obtain ⟨b1_0, rfl, h4⟩ := caps1_elim h3
 obtain ⟨k0, rfl, h5⟩ := withR_elim h4
 obtain ⟨h_xs, hK⟩ := h5
 have h : ok (F.IndexFunc_impl_Part_kind_1_1 xs k0) (fun r => K (.data TInt r) []) := ok_of_eq (F.IndexFunc_impl_Part_kind_1_1_eq xs k0 h_xs) hK
 refine ⟨⟨show (2 : Nat) ≤ 19 by decide, show (2 : Nat) ≤ 1000000 by decide⟩, ann200, (L200 xs k0), (.dat TInt), (loopsN1 (i0 := 0) (by kernel_rfl) ?_), ?_⟩
 ·clear h
  intro m_ s_ K_ h
  obtain ⟨hc0, i0, v0, rfl, hl0, rfl, hv0, h⟩ := (show LP200_0 xs k0 m_ s_ K_ from h)
  rw [lvc200_0 xs k0 i0 v0 _ K_]
  exact (loopI_step h (fun ht0 h => ⟨hl0, ⟨ht0, (ok_cond h (fun b_9 h => (ok_ret h :)) (fun b_9 h => (loopI_next (fun m hm => (show LP200_0 xs k0 m _ _ from ⟨hc0, hm⟩)) () rfl hl0 low0 ht0 (sm_len h_xs) trivial (ok_ret h :))))⟩⟩) (fun h => (h trivial)))
 ·rw [vc200 xs k0 K]
  exact (loopI_start (fun m hm => ⟨trivial, hm⟩) (0 : Int) () rfl (Int.natCast_nonneg 0) trivial (ok_then h (fun v0 h hv0 => (ok_ret h :)) (fun q0 h => (ok_ret h :))))
def c173 : Con := ⟨[.lent TInt, .any], fun args hp K => args2 (fun a0 a1 => withB TInt a0 fun xs => withF 174 a1 (caps1 (fun b1_0 => withR TInt b1_0 fun k0 => (Sm (Ty.sl TInt) xs) ∧ K (.data Ty.bool (List.any xs (fun e => !decide (e = k0)))) []))) args hp, .plain⟩
def cons173 : Cons := [(174, c174), (200, c200)]
@[reducible] def C173 : Ctx := ⟨tab, fun t => memN t cmps, cons173, 9, [], 0, false⟩
theorem consOk173 : ConsOk P C173 := by
 refine consOk_cons (enter_ok (fn := f174) func174 (by kernel_rfl) rfl) con174_ok ?_
 refine consOk_cons (enter_ok (fn := f200) func200 (by kernel_rfl) rfl) con200_ok ?_
 exact consOk_nil
def ann173 : Nat → List Dir
 | 0 => [.keep [0, 1]]
 | 1 => [.keep [4]]
 | _ => []
def L173 (xs : (List Int)) (k0 : Int) : Loops := fun id m st_ K => match id with
 | _ => False
theorem vc173 (xs : (List Int)) (k0 : Int) (K : AV → Hp → Prop) : awp C173 (L173 xs k0) ann173 (bodyOf f173) ⟨argEnv 0 [.brw TInt xs, .fn 174 [.ref (.data TInt k0)]], []⟩ (outK tab false f173.results.toList (hasBox []) (resK (.dat Ty.bool) K)) =
 ((Sm (Ty.sl TInt) xs) ∧ K (.data Ty.bool (decide ((0 : Int) ≤ (M.idx (t := TInt) (fun e => !decide (e = k0)) xs)))) []) := by kernel_rfl
theorem con173_ok : ConOk P 173 c173 := by
 refine con_okR (fn := f173) (code := bodyOf f173) (tab_ok tab_check cmp_check) consOk173 mixed func173 rfl rfl fun args hp K h0 => ?_
 obtain ⟨a0, a1, rfl, rfl, h1⟩ := args2_elim h0
 obtain ⟨xs, rfl, h2⟩ := withB_elim h1
 obtain ⟨cs1, rfl, h3⟩ := withF_elim h2
 obtain ⟨b1_0, rfl, h4⟩ := caps1_elim h3
 obtain ⟨k0, rfl, h5⟩ := withR_elim h4
 obtain ⟨h_xs, hK⟩ := h5
 have h : ok (F.ContainsFunc_impl_Part_kind_1_1 xs k0) (fun r => K (.data Ty.bool r) []) := ok_of_eq (F.ContainsFunc_impl_Part_kind_1_1_eq xs k0 h_xs) hK
 refine ⟨⟨show (2 : Nat) ≤ 9 by decide, show (2 : Nat) ≤ 1000000 by decide⟩, ann173, (L173 xs k0), (.dat Ty.bool), (no_loops (by kernel_rfl)), ?_⟩
 ·rw [vc173 xs k0 K]
  exact ⟨h_xs, (ok_ret h :)⟩
def c172 : Con := ⟨[.dat TInt, .any], fun args hp K => args2 (fun a0 a1 => withD TInt a0 fun kind => withRB TInt a1 fun ins => (Sm (Ty.sl TInt) ins) ∧ K (.data Ty.bool (List.all ins (fun k => decide (k = kind)))) []) args hp, .plain⟩
def cons172 : Cons := [(173, c173), (174, c174)]
@[reducible] def C172 : Ctx := ⟨tab, fun t => memN t cmps, cons172, 8, [], 0, false⟩
theorem consOk172 : ConsOk P C172 := by
 refine consOk_cons (enter_ok (fn := f173) func173 (by kernel_rfl) rfl) con173_ok ?_
 refine consOk_cons (enter_ok (fn := f174) func174 (by kernel_rfl) rfl) con174_ok ?_
 exact consOk_nil
def ann172 : Nat → List Dir
 | 0 => [.fixBox 2, .keep [1, 2]]
 | 1 => [.keep [3]]
 | _ => []
def L172 (kind : Int) (ins : (List Int)) : Loops := fun id m st_ K => match id with
 | _ => False
theorem vc172 (kind : Int) (ins : (List Int)) (K : AV → Hp → Prop) : awp C172 (L172 kind ins) ann172 (bodyOf f172) ⟨argEnv 0 [.data TInt kind, .ref (.brw TInt ins)], []⟩ (outK tab false f172.results.toList (hasBox []) (resK (.dat Ty.bool) K)) =
 ((Sm (Ty.sl TInt) ins) ∧ K (.data Ty.bool (!(List.any ins (fun e => !decide (e = kind))))) []) := by kernel_rfl
theorem con172_ok : ConOk P 172 c172 := by
 refine con_okR (fn := f172) (code := bodyOf f172) (tab_ok tab_check cmp_check) consOk172 mixed func172 rfl rfl fun args hp K h0 => ?_
 obtain ⟨a0, a1, rfl, rfl, h1⟩ := args2_elim h0
 obtain ⟨kind, rfl, h2⟩ := withD_elim h1
 obtain ⟨ins, rfl, h3⟩ := withRB_elim h2
 obtain ⟨h_ins, hK⟩ := h3
 have h : ok (F.impl_Part_kind_1 kind ins) (fun r => K (.data Ty.bool r) []) := ok_of_eq (F.impl_Part_kind_1_eq kind ins h_ins) hK
 refine ⟨⟨show (2 : Nat) ≤ 8 by decide, show (2 : Nat) ≤ 1000000 by decide⟩, ann172, (L172 kind ins), (.dat Ty.bool), (no_loops (by kernel_rfl)), ?_⟩
 ·rw [vc172 kind ins K]
  exact ⟨h_ins, (ok_ret h :)⟩
def c135 : Con := ⟨[.dat TPart, .dat (Ty.sl TColumn), .lent TInt], fun args hp K => args3 (fun a0 a1 a2 => withD TPart a0 fun p => withD (Ty.sl TColumn) a1 fun columns => withB TInt a2 fun inp => (Sm TPart p) ∧ (Sm (Ty.sl TColumn) columns) ∧ (Sm (Ty.sl TInt) inp) ∧ (M.tells p columns = true) ∧ ((inp.length : Int) = M.takes p) ∧ (∀ r : Int × Bool, r = (M.partKind p columns inp) → K (.tup [.data TInt r.1, .data Ty.bool r.2]) [])) args hp, .plain⟩
def cons135 : Cons := [(172, c172)]
@[reducible] def C135 : Ctx := ⟨tab, fun t => memN t cmps, cons135, 42, [], 0, false⟩
theorem consOk135 : ConsOk P C135 := by
 refine consOk_cons (enter_ok (fn := f172) func172 (by kernel_rfl) rfl) con172_ok ?_
 exact consOk_nil
def ann135 : Nat → List Dir
 | 0 => [.fixRow 3 TPart, .fixBox 5, .keep [1, 3, 5]]
 | 1 => [.keep [1, 3, 5, 8]]
 | 2 => [.keep [1, 3, 5, 8, 11]]
 | 3 => [.keep [1, 3, 5, 8, 11, 12]]
 | 4 => [.keep [6, 7]]
 | 5 => [.keep [1, 3, 5, 8, 11, 17]]
 | 6 => [.keep [6, 7]]
 | 7 => [.keep [5, 8, 11, 25]]
 | 8 => [.keep [6, 7]]
 | 9 => [.keep [5, 8, 11, 29]]
 | 10 => [.keep [6, 7]]
 | 11 => [.keep [8, 38]]
 | 12 => [.keep [6, 7]]
 | 13 => [.keep [6, 7]]
 | _ => []
def L135 (p : (TPart).D) (columns : (List (TColumn).D)) (inp : (List Int)) : Loops := fun id m st_ K => match id with
 | _ => False
theorem vc135 (p : (TPart).D) (columns : (List (TColumn).D)) (inp : (List Int)) (K : AV → Hp → Prop) : awp C135 (L135 p columns inp) ann135 (bodyOf f135) ⟨argEnv 0 [.data TPart p, .data (Ty.sl TColumn) columns, .brw TInt inp], []⟩ (outK tab false f135.results.toList (hasBox []) (resK (.tup [TInt, Ty.bool]) K)) =
 (cond (decide (p.1 = (1 : Int))) (K (.tup [.data TInt p.2.2.1.1, .data Ty.bool true]) []) (cond (decide (p.1 = (2 : Int))) ((0 ≤ p.2.1) ∧ (p.2.1 < (columns.length : Int)) ∧ K (.tup [.data TInt ((nth (t := TColumn) columns p.2.1).1), .data Ty.bool true]) []) (cond (decide (p.1 = (3 : Int))) ((Sm (Ty.sl TInt) inp) ∧ K (.tup [.data TInt (1 : Int), .data Ty.bool (List.all inp (fun k => decide (k = (1 : Int))))]) []) (cond (decide (p.1 = (4 : Int))) ((0 ≤ (0 : Int)) ∧ ((0 : Int) < (inp.length : Int)) ∧ (0 ≤ (1 : Int)) ∧ ((1 : Int) < (inp.length : Int)) ∧ K (.tup [.data TInt (3 : Int), .data Ty.bool (decide ((nth (t := TInt) inp (0 : Int)) = (nth (t := TInt) inp (1 : Int))))]) []) (cond (decide (p.1 = (8 : Int))) (K (.tup [.data TInt (3 : Int), .data Ty.bool true]) []) ((Sm (Ty.sl TInt) inp) ∧ K (.tup [.data TInt (3 : Int), .data Ty.bool (List.all inp (fun k => decide (k = (3 : Int))))]) [])))))) := by kernel_rfl
theorem con135_ok : ConOk P 135 c135 := by
 refine con_okR (fn := f135) (code := bodyOf f135) (tab_ok tab_check cmp_check) consOk135 mixed func135 rfl rfl fun args hp K h0 => ?_
 obtain ⟨a0, a1, a2, rfl, rfl, h1⟩ := args3_elim h0
 obtain ⟨p, rfl, h2⟩ := withD_elim h1
 obtain ⟨columns, rfl, h3⟩ := withD_elim h2
 obtain ⟨inp, rfl, h4⟩ := withB_elim h3
 obtain ⟨h_p, h_columns, h_inp, p0, p1, hK⟩ := h4
 have h : ok (F.impl_Part_kind p columns inp) (fun r => K (.tup [.data TInt r.1, .data Ty.bool r.2]) []) := ok_of_eq (F.impl_Part_kind_eq p columns inp h_p h_columns h_inp p0 p1) (hK _ rfl)
 refine ⟨⟨show (3 : Nat) ≤ 42 by decide, show (3 : Nat) ≤ 1000000 by decide⟩, ann135, (L135 p columns inp), (.tup [TInt, Ty.bool]), (no_loops (by kernel_rfl)), ?_⟩
 ·rw [vc135 p columns inp K]
  exact (ok_cond h (fun b_1 h => (ok_ret h :)) (fun b_1 h => (ok_cond h (fun b_2 h => ⟨(ok_guard h).1, have h := (ok_guard h).2; ⟨(ok_guard h).1, have h := (ok_guard h).2; (ok_ret h :)⟩⟩) (fun b_2 h => (ok_cond h (fun b_5 h => ⟨h_inp, (ok_ret h :)⟩) (fun b_5 h => (ok_cond h (fun b_6 h => ⟨(Int.natCast_nonneg 0), ⟨(ok_guard h).1, have h := (ok_guard h).2; ⟨(Int.natCast_nonneg 1), ⟨(ok_guard h).1, have h := (ok_guard h).2; (ok_ret h :)⟩⟩⟩⟩) (fun b_6 h => (ok_cond h (fun b_9 h => (ok_ret h :)) (fun b_9 h => ⟨h_inp, (ok_ret h :)⟩))))))))))
end Go.AE
