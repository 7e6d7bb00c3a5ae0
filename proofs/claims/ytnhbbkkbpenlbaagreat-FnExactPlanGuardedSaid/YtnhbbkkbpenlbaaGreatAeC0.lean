/- Contracts. -/
import Derived.Test.YtnhbbkkbpenlbaaGreatAeSeat
import Derived.Test.YtnhbbkkbpenlbaaGreatAeEq
import Derived.Test.YtnhbbkkbpenlbaaGreatAeInl
namespace Go.AE
open Go Go.RowKit Go.Proofs.Tryz
set_option maxRecDepth 100000
set_option maxHeartbeats 2000000
set_option linter.unusedVariables false
def c78 : Con := ⟨[.dat TCS, .dat TInt], fun args hp K => args2 (fun a0 a1 => withD TCS a0 fun x => withD TInt a1 fun left => (Ln TCS x) ∧ (0 ≤ left) ∧ (left ≤ 1048576) ∧ K (dI (M.szLen x.length left)) []) args hp, .plain⟩
def cons78 : Cons := []
@[reducible] def C78 : Ctx := ⟨tab, fun t => memN t cmps, cons78, 12, [], 0, false⟩
theorem consOk78 : ConsOk P C78 := by
 exact consOk_nil
def ann78 : Nat → List Dir
 | 0 => [.keep [0, 1]]
 | 1 => [.keep [1]]
 | 2 => [.keep [1, 10]]
 | 3 => [.keep [4]]
 | 4 => [.keep [4]]
 | _ => []
def L78 (x : LC) (left : Int) : Loops := fun id m st_ K => match id with
 | _ => False
theorem vc78 (x : LC) (left : Int) (K : KA) : awp C78 (L78 x left) ann78 (bodyOf f78) ⟨argEnv 0 [.data TCS x, dI left], []⟩ (outK tab false f78.results.toList (hasBox []) (resK (.dat TInt) K)) =
 (cond (decide (wrap64 (left - (x.length : Int)) < Z0)) (K (dI (-1 : Int)) []) (K (dI (wrap64 (left - (x.length : Int)))) [])) := by kernel_rfl
theorem con78_ok : ConOk P 78 c78 := by
 refine con_okR (fn := f78) (code := bodyOf f78) (tab_ok tab_check cmp_check) consOk78 mixed func78 rfl rfl fun args hp K h0 => ?_
 obtain ⟨a0, a1, rfl, rfl, h1⟩ := args2_elim h0
 obtain ⟨x, rfl, h2⟩ := withD_elim h1
 obtain ⟨left, rfl, h3⟩ := withD_elim h2
 obtain ⟨h_x, p0, p1, hK⟩ := h3
 have h : ok (F.laws_szColumnS x left) (fun r => K (dI r) []) := ok_of_eq (F.laws_szColumnS_eq x left h_x p0 p1) hK
 refine ⟨⟨show (2 : Nat) ≤ 12 by decide, show (2 : Nat) ≤ 1000000 by decide⟩, ann78, (L78 x left), (.dat TInt), (no_loops (by kernel_rfl)), ?_⟩
 ·rw [vc78 x left K]
  exact (ok_cond h (fun b_1 h => (ok_ret h :)) (fun b_1 h => (ok_ret h :)))
def c152 : Con := ⟨[.dat TValue, .dat TInt], fun args hp K => args2 (fun a0 a1 => withD TValue a0 fun x => withD TInt a1 fun left => (Ln TValue x) ∧ (0 ≤ left) ∧ (left ≤ 1048576) ∧ K (dI (M.szValue x left)) []) args hp, .plain⟩
def cons152 : Cons := []
@[reducible] def C152 : Ctx := ⟨tab, fun t => memN t cmps, cons152, 13, [], 0, false⟩
theorem consOk152 : ConsOk P C152 := by
 exact consOk_nil
def ann152 : Nat → List Dir
 | 0 => [.fixRow 2 TValue, .keep [1, 2]]
 | 1 => [.keep [1]]
 | 2 => [.keep [1, 11]]
 | 3 => [.keep [4]]
 | 4 => [.keep [4]]
 | _ => []
def L152 (x : (TValue).D) (left : Int) : Loops := fun id m st_ K => match id with
 | _ => False
theorem vc152 (x : (TValue).D) (left : Int) (K : KA) : awp C152 (L152 x left) ann152 (bodyOf f152) ⟨argEnv 0 [.data TValue x, dI left], []⟩ (outK tab false f152.results.toList (hasBox []) (resK (.dat TInt) K)) =
 (cond (decide (wrap64 (left - (x.2.2.1.size : Int)) < Z0)) (K (dI (-1 : Int)) []) (K (dI (wrap64 (left - (x.2.2.1.size : Int)))) [])) := by kernel_rfl
theorem con152_ok : ConOk P 152 c152 := by
 refine con_okR (fn := f152) (code := bodyOf f152) (tab_ok tab_check cmp_check) consOk152 mixed func152 rfl rfl fun args hp K h0 => ?_
 obtain ⟨a0, a1, rfl, rfl, h1⟩ := args2_elim h0
 obtain ⟨x, rfl, h2⟩ := withD_elim h1
 obtain ⟨left, rfl, h3⟩ := withD_elim h2
 obtain ⟨h_x, p0, p1, hK⟩ := h3
 have h : ok (F.laws_szValue x left) (fun r => K (dI r) []) := ok_of_eq (F.laws_szValue_eq x left h_x p0 p1) hK
 refine ⟨⟨show (2 : Nat) ≤ 13 by decide, show (2 : Nat) ≤ 1000000 by decide⟩, ann152, (L152 x left), (.dat TInt), (no_loops (by kernel_rfl)), ?_⟩
 ·rw [vc152 x left K]
  exact (ok_cond h (fun b_1 h => (ok_ret h :)) (fun b_1 h => (ok_ret h :)))
def c117 : Con := ⟨[.dat TVS, .dat TInt], fun args hp K => args2 (fun a0 a1 => withD TVS a0 fun x => withD TInt a1 fun left => (Ln TVS x) ∧ (0 ≤ left) ∧ (left ≤ 1048576) ∧ K (dI (M.szS M.szValue x left)) []) args hp, .plain⟩
def cons117 : Cons := [(152, c152)]
@[reducible] def C117 : Ctx := ⟨tab, fun t => memN t cmps, cons117, 27, [], 0, false⟩
theorem consOk117 : ConsOk P C117 := by
 refine consOk_cons (enter_ok (fn := f152) func152 (by kernel_rfl) rfl) con152_ok ?_
 exact consOk_nil
def ann117 : Nat → List Dir
 | 0 => [.keep [0, 1]]
 | 1 => [.keep [0, 1]]
 | 2 => [.keep [0, 1, 11]]
 | 3 => [.keep [4]]
 | 4 => [.keep [0, 1, 5]]
 | 5 => [.keep [0, 1, 5, 15]]
 | 6 => [.keep [0, 1, 5]]
 | 7 => [.keep [0, 1, 5]]
 | 8 => [.keep [0, 1, 5, 25]]
 | 9 => [.keep [4]]
 | 10 => [.keep [4]]
 | 100000 => [.keep [1]]
 | _ => []
@[reducible] def LP117_0 (x : LV) (left : Int) (m : Nat) (st_ : St) (K : KX) : Prop := (True) ∧ LoopE (t := TValue) (fun (i0 : Int) (v0 : Int) => (⟨[(0, .data TVS x), (1, dI v0), (5, dI i0)], []⟩ : St)) x (F.laws_szValueS_l0 x left) (fun v0 : Int => True) (outD (fun v0 : Int => True → K (.exit 0) (⟨[(1, dI v0)], []⟩ : St)) (fun q0 : Unit => K .ret (⟨[(4, dI (-1 : Int))], []⟩ : St))) m st_
def L117 (x : LV) (left : Int) : Loops := fun id m st_ K => match id with
 | 0 => LP117_0 x left m st_ K
 | _ => False
theorem vc117 (x : LV) (left : Int) (K : KA) : awp C117 (L117 x left) ann117 (bodyOf f117) ⟨argEnv 0 [.data TVS x, dI left], []⟩ (outK tab false f117.results.toList (hasBox []) (resK (.dat TInt) K)) =
 (cond (decide (wrap64 (left - (x.length : Int)) < Z0)) (K (dI (-1 : Int)) []) ((∃ m_, (True) ∧ LoopE (t := TValue) (fun (i0 : Int) (v0 : Int) => (⟨[(0, .data TVS x), (1, dI v0), (5, dI i0)], []⟩ : St)) x (F.laws_szValueS_l0 x left) (fun v0 : Int => True) (outD (fun v0 : Int => True → K (dI v0) []) (fun q0 : Unit => K (dI (-1 : Int)) [])) m_ (⟨[(0, .data TVS x), (1, dI (wrap64 (left - (x.length : Int)))), (5, dI Z0)], []⟩ : St)))) := by kernel_rfl
theorem lvc117_0 (x : LV) (left : Int)  (i0 : Int) (v0 : Int) (m : Nat) (K : KX) : awp C117 (L117 x left) ann117 (loopAt (bodyOf f117) 0) (⟨[(0, .data TVS x), (1, dI v0), (5, dI i0)], []⟩ : St) (thenW (fun s' => ∃ m', m' < m ∧ (L117 x left) 0 m' s' K) (exitN 0 (ann117 (behind 0)) K)) =
 (cond (decide (i0 < (x.length : Int))) ((0 ≤ i0) ∧ (i0 < (x.length : Int)) ∧ (Ln TValue (nV x i0)) ∧ (0 ≤ v0) ∧ (v0 ≤ 1048576) ∧ cond (decide ((M.szValue (nV x i0) v0) < Z0)) (K .ret (⟨[(4, dI (-1 : Int))], []⟩ : St)) ((∃ m_, m_ < m ∧ (L117 x left) 0 m_ (⟨[(0, .data TVS x), (1, dI (M.szValue (nV x i0) v0)), (5, dI (wrap64 (i0 + Z1)))], []⟩ : St) K))) (K (.exit 0) (⟨[(1, dI v0)], []⟩ : St))) := by kernel_rfl
theorem con117_ok : ConOk P 117 c117 := by
 refine con_okR (fn := f117) (code := bodyOf f117) (tab_ok tab_check cmp_check) consOk117 mixed func117 rfl rfl fun args hp K h0 => ?_
 obtain ⟨a0, a1, rfl, rfl, h1⟩ := args2_elim h0
 obtain ⟨x, rfl, h2⟩ := withD_elim h1
 obtain ⟨left, rfl, h3⟩ := withD_elim h2
 obtain ⟨h_x, p0, p1, hK⟩ := h3
 have h : ok (F.laws_szValueS x left) (fun r => K (dI r) []) := ok_of_eq (F.laws_szValueS_eq x left h_x p0 p1) hK
 refine ⟨⟨show (2 : Nat) ≤ 27 by decide, show (2 : Nat) ≤ 1000000 by decide⟩, ann117, (L117 x left), (.dat TInt), (loopsN1 (i0 := 0) (by kernel_rfl) ?_), ?_⟩
 ·clear h
  intro m_ s_ K_ h
  obtain ⟨hc0, i0, v0, rfl, hl0, rfl, hv0, h⟩ := (show LP117_0 x left m_ s_ K_ from h)
  rw [lvc117_0 x left i0 v0 _ K_]
  exact (loopE_step (t := TValue) hl0 h (fun ht0 h => ⟨hl0, ⟨ht0, ⟨(sm_nth h_x i0), ⟨(ok_guard h).1, have h := (ok_guard h).2; ⟨(ok_guard h).1, have h := (ok_guard h).2; (ok_cond h (fun b_16 h => (ok_ret h :)) (fun b_16 h => (loopE_next (t := TValue) (fun m hm => (show LP117_0 x left m _ _ from ⟨hc0, hm⟩)) (M.szValue (nV x i0) v0) rfl hl0 ht0 (sm_len h_x) trivial (ok_ret h :))))⟩⟩⟩⟩⟩) (fun h => (h trivial)))
 ·rw [vc117 x left K]
  exact (ok_cond h (fun b_1 h => (ok_ret h :)) (fun b_1 h => (loopE_start (t := TValue) (fun m hm => ⟨trivial, hm⟩) (wrap64 (left - (x.length : Int))) rfl trivial (ok_then h (fun v0 h hv0 => (ok_ret h :)) (fun q0 h => (ok_ret h :))))))
def c79 : Con := ⟨[.dat (Ty.sl TVS), .dat TInt], fun args hp K => args2 (fun a0 a1 => withD (Ty.sl TVS) a0 fun x => withD TInt a1 fun left => (Ln (Ty.sl TVS) x) ∧ (0 ≤ left) ∧ (left ≤ 1048576) ∧ K (dI (M.szS (M.szS M.szValue) x left)) []) args hp, .plain⟩
def cons79 : Cons := [(117, c117)]
@[reducible] def C79 : Ctx := ⟨tab, fun t => memN t cmps, cons79, 27, [], 0, false⟩
theorem consOk79 : ConsOk P C79 := by
 refine consOk_cons (enter_ok (fn := f117) func117 (by kernel_rfl) rfl) con117_ok ?_
 exact consOk_nil
def ann79 : Nat → List Dir
 | 0 => [.keep [0, 1]]
 | 1 => [.keep [0, 1]]
 | 2 => [.keep [0, 1, 11]]
 | 3 => [.keep [4]]
 | 4 => [.keep [0, 1, 5]]
 | 5 => [.keep [0, 1, 5, 15]]
 | 6 => [.keep [0, 1, 5]]
 | 7 => [.keep [0, 1, 5]]
 | 8 => [.keep [0, 1, 5, 25]]
 | 9 => [.keep [4]]
 | 10 => [.keep [4]]
 | 100000 => [.keep [1]]
 | _ => []
@[reducible] def LP79_0 (x : (List LV)) (left : Int) (m : Nat) (st_ : St) (K : KX) : Prop := (True) ∧ LoopE (t := TVS) (fun (i0 : Int) (v0 : Int) => (⟨[(0, .data (Ty.sl TVS) x), (1, dI v0), (5, dI i0)], []⟩ : St)) x (F.laws_szValueSS_l0 x left) (fun v0 : Int => True) (outD (fun v0 : Int => True → K (.exit 0) (⟨[(1, dI v0)], []⟩ : St)) (fun q0 : Unit => K .ret (⟨[(4, dI (-1 : Int))], []⟩ : St))) m st_
def L79 (x : (List LV)) (left : Int) : Loops := fun id m st_ K => match id with
 | 0 => LP79_0 x left m st_ K
 | _ => False
theorem vc79 (x : (List LV)) (left : Int) (K : KA) : awp C79 (L79 x left) ann79 (bodyOf f79) ⟨argEnv 0 [.data (Ty.sl TVS) x, dI left], []⟩ (outK tab false f79.results.toList (hasBox []) (resK (.dat TInt) K)) =
 (cond (decide (wrap64 (left - (x.length : Int)) < Z0)) (K (dI (-1 : Int)) []) ((∃ m_, (True) ∧ LoopE (t := TVS) (fun (i0 : Int) (v0 : Int) => (⟨[(0, .data (Ty.sl TVS) x), (1, dI v0), (5, dI i0)], []⟩ : St)) x (F.laws_szValueSS_l0 x left) (fun v0 : Int => True) (outD (fun v0 : Int => True → K (dI v0) []) (fun q0 : Unit => K (dI (-1 : Int)) [])) m_ (⟨[(0, .data (Ty.sl TVS) x), (1, dI (wrap64 (left - (x.length : Int)))), (5, dI Z0)], []⟩ : St)))) := by kernel_rfl
theorem lvc79_0 (x : (List LV)) (left : Int)  (i0 : Int) (v0 : Int) (m : Nat) (K : KX) : awp C79 (L79 x left) ann79 (loopAt (bodyOf f79) 0) (⟨[(0, .data (Ty.sl TVS) x), (1, dI v0), (5, dI i0)], []⟩ : St) (thenW (fun s' => ∃ m', m' < m ∧ (L79 x left) 0 m' s' K) (exitN 0 (ann79 (behind 0)) K)) =
 (cond (decide (i0 < (x.length : Int))) ((0 ≤ i0) ∧ (i0 < (x.length : Int)) ∧ (Ln TVS (nth (t := TVS) x i0)) ∧ (0 ≤ v0) ∧ (v0 ≤ 1048576) ∧ cond (decide ((M.szS M.szValue (nth (t := TVS) x i0) v0) < Z0)) (K .ret (⟨[(4, dI (-1 : Int))], []⟩ : St)) ((∃ m_, m_ < m ∧ (L79 x left) 0 m_ (⟨[(0, .data (Ty.sl TVS) x), (1, dI (M.szS M.szValue (nth (t := TVS) x i0) v0)), (5, dI (wrap64 (i0 + Z1)))], []⟩ : St) K))) (K (.exit 0) (⟨[(1, dI v0)], []⟩ : St))) := by kernel_rfl
theorem con79_ok : ConOk P 79 c79 := by
 refine con_okR (fn := f79) (code := bodyOf f79) (tab_ok tab_check cmp_check) consOk79 mixed func79 rfl rfl fun args hp K h0 => ?_
 obtain ⟨a0, a1, rfl, rfl, h1⟩ := args2_elim h0
 obtain ⟨x, rfl, h2⟩ := withD_elim h1
 obtain ⟨left, rfl, h3⟩ := withD_elim h2
 obtain ⟨h_x, p0, p1, hK⟩ := h3
 have h : ok (F.laws_szValueSS x left) (fun r => K (dI r) []) := ok_of_eq (F.laws_szValueSS_eq x left h_x p0 p1) hK
 refine ⟨⟨show (2 : Nat) ≤ 27 by decide, show (2 : Nat) ≤ 1000000 by decide⟩, ann79, (L79 x left), (.dat TInt), (loopsN1 (i0 := 0) (by kernel_rfl) ?_), ?_⟩
 ·clear h
  intro m_ s_ K_ h
  obtain ⟨hc0, i0, v0, rfl, hl0, rfl, hv0, h⟩ := (show LP79_0 x left m_ s_ K_ from h)
  rw [lvc79_0 x left i0 v0 _ K_]
  exact (loopE_step (t := TVS) hl0 h (fun ht0 h => ⟨hl0, ⟨ht0, ⟨(sm_nth h_x i0), ⟨(ok_guard h).1, have h := (ok_guard h).2; ⟨(ok_guard h).1, have h := (ok_guard h).2; (ok_cond h (fun b_16 h => (ok_ret h :)) (fun b_16 h => (loopE_next (t := TVS) (fun m hm => (show LP79_0 x left m _ _ from ⟨hc0, hm⟩)) (M.szS M.szValue (nth (t := TVS) x i0) v0) rfl hl0 ht0 (sm_len h_x) trivial (ok_ret h :))))⟩⟩⟩⟩⟩) (fun h => (h trivial)))
 ·rw [vc79 x left K]
  exact (ok_cond h (fun b_1 h => (ok_ret h :)) (fun b_1 h => (loopE_start (t := TVS) (fun m hm => ⟨trivial, hm⟩) (wrap64 (left - (x.length : Int))) rfl trivial (ok_then h (fun v0 h hv0 => (ok_ret h :)) (fun q0 h => (ok_ret h :))))))
def c35 : Con := ⟨[.dat TTable, .dat TInt], fun args hp K => args2 (fun a0 a1 => withD TTable a0 fun x => withD TInt a1 fun left => (Ln TTable x) ∧ (0 ≤ left) ∧ (left ≤ 1048576) ∧ K (dI (M.szTable x left)) []) args hp, .plain⟩
def cons35 : Cons := [(78, c78), (79, c79)]
@[reducible] def C35 : Ctx := ⟨tab, fun t => memN t cmps, cons35, 18, [], 0, false⟩
theorem consOk35 : ConsOk P C35 := by
 refine consOk_cons (enter_ok (fn := f78) func78 (by kernel_rfl) rfl) con78_ok ?_
 refine consOk_cons (enter_ok (fn := f79) func79 (by kernel_rfl) rfl) con79_ok ?_
 exact consOk_nil
def ann35 : Nat → List Dir
 | 0 => [.fixRow 2 TTable, .keep [1, 2]]
 | 1 => [.keep [1, 2]]
 | 2 => [.keep [1, 2, 10]]
 | 3 => [.keep [4]]
 | 4 => [.keep [1]]
 | 5 => [.keep [1, 16]]
 | 6 => [.keep [4]]
 | 7 => [.keep [4]]
 | _ => []
def L35 (x : (TTable).D) (left : Int) : Loops := fun id m st_ K => match id with
 | _ => False
theorem vc35 (x : (TTable).D) (left : Int) (K : KA) : awp C35 (L35 x left) ann35 (bodyOf f35) ⟨argEnv 0 [.data TTable x, dI left], []⟩ (outK tab false f35.results.toList (hasBox []) (resK (.dat TInt) K)) =
 ((Ln TCS x.1) ∧ (0 ≤ left) ∧ (left ≤ 1048576) ∧ cond (decide ((M.szLen x.1.length left) < Z0)) (K (dI (-1 : Int)) []) ((Ln (Ty.sl TVS) x.2.1) ∧ (0 ≤ (M.szLen x.1.length left)) ∧ ((M.szLen x.1.length left) ≤ 1048576) ∧ cond (decide ((M.szS (M.szS M.szValue) x.2.1 (M.szLen x.1.length left)) < Z0)) (K (dI (-1 : Int)) []) (K (dI (M.szS (M.szS M.szValue) x.2.1 (M.szLen x.1.length left))) []))) := by kernel_rfl
theorem con35_ok : ConOk P 35 c35 := by
 refine con_okR (fn := f35) (code := bodyOf f35) (tab_ok tab_check cmp_check) consOk35 mixed func35 rfl rfl fun args hp K h0 => ?_
 obtain ⟨a0, a1, rfl, rfl, h1⟩ := args2_elim h0
 obtain ⟨x, rfl, h2⟩ := withD_elim h1
 obtain ⟨left, rfl, h3⟩ := withD_elim h2
 obtain ⟨h_x, p0, p1, hK⟩ := h3
 have h : ok (F.laws_szTable x left) (fun r => K (dI r) []) := ok_of_eq (F.laws_szTable_eq x left h_x p0 p1) hK
 refine ⟨⟨show (2 : Nat) ≤ 18 by decide, show (2 : Nat) ≤ 1000000 by decide⟩, ann35, (L35 x left), (.dat TInt), (no_loops (by kernel_rfl)), ?_⟩
 ·rw [vc35 x left K]
  exact ⟨h_x.1, ⟨p0, ⟨p1, (ok_cond h (fun b_1 h => (ok_ret h :)) (fun b_1 h => ⟨h_x.2.1, ⟨(ok_guard h).1, have h := (ok_guard h).2; ⟨(ok_guard h).1, have h := (ok_guard h).2; (ok_cond h (fun b_4 h => (ok_ret h :)) (fun b_4 h => (ok_ret h :)))⟩⟩⟩))⟩⟩⟩
def c8 : Con := ⟨[.dat TTb, .dat TInt], fun args hp K => args2 (fun a0 a1 => withD TTb a0 fun x => withD TInt a1 fun left => (Ln TTb x) ∧ (0 ≤ left) ∧ (left ≤ 1048576) ∧ K (dI (M.szS M.szTable x left)) []) args hp, .plain⟩
def cons8 : Cons := [(35, c35)]
@[reducible] def C8 : Ctx := ⟨tab, fun t => memN t cmps, cons8, 27, [], 0, false⟩
theorem consOk8 : ConsOk P C8 := by
 refine consOk_cons (enter_ok (fn := f35) func35 (by kernel_rfl) rfl) con35_ok ?_
 exact consOk_nil
def ann8 : Nat → List Dir
 | 0 => [.keep [0, 1]]
 | 1 => [.keep [0, 1]]
 | 2 => [.keep [0, 1, 11]]
 | 3 => [.keep [4]]
 | 4 => [.keep [0, 1, 5]]
 | 5 => [.keep [0, 1, 5, 15]]
 | 6 => [.keep [0, 1, 5]]
 | 7 => [.keep [0, 1, 5]]
 | 8 => [.keep [0, 1, 5, 25]]
 | 9 => [.keep [4]]
 | 10 => [.keep [4]]
 | 100000 => [.keep [1]]
 | _ => []
@[reducible] def LP8_0 (x : LTb) (left : Int) (m : Nat) (st_ : St) (K : KX) : Prop := (True) ∧ LoopE (t := TTable) (fun (i0 : Int) (v0 : Int) => (⟨[(0, .data TTb x), (1, dI v0), (5, dI i0)], []⟩ : St)) x (F.laws_szTableS_l0 x left) (fun v0 : Int => True) (outD (fun v0 : Int => True → K (.exit 0) (⟨[(1, dI v0)], []⟩ : St)) (fun q0 : Unit => K .ret (⟨[(4, dI (-1 : Int))], []⟩ : St))) m st_
def L8 (x : LTb) (left : Int) : Loops := fun id m st_ K => match id with
 | 0 => LP8_0 x left m st_ K
 | _ => False
theorem vc8 (x : LTb) (left : Int) (K : KA) : awp C8 (L8 x left) ann8 (bodyOf f8) ⟨argEnv 0 [.data TTb x, dI left], []⟩ (outK tab false f8.results.toList (hasBox []) (resK (.dat TInt) K)) =
 (cond (decide (wrap64 (left - (x.length : Int)) < Z0)) (K (dI (-1 : Int)) []) ((∃ m_, (True) ∧ LoopE (t := TTable) (fun (i0 : Int) (v0 : Int) => (⟨[(0, .data TTb x), (1, dI v0), (5, dI i0)], []⟩ : St)) x (F.laws_szTableS_l0 x left) (fun v0 : Int => True) (outD (fun v0 : Int => True → K (dI v0) []) (fun q0 : Unit => K (dI (-1 : Int)) [])) m_ (⟨[(0, .data TTb x), (1, dI (wrap64 (left - (x.length : Int)))), (5, dI Z0)], []⟩ : St)))) := by kernel_rfl
theorem lvc8_0 (x : LTb) (left : Int)  (i0 : Int) (v0 : Int) (m : Nat) (K : KX) : awp C8 (L8 x left) ann8 (loopAt (bodyOf f8) 0) (⟨[(0, .data TTb x), (1, dI v0), (5, dI i0)], []⟩ : St) (thenW (fun s' => ∃ m', m' < m ∧ (L8 x left) 0 m' s' K) (exitN 0 (ann8 (behind 0)) K)) =
 (cond (decide (i0 < (x.length : Int))) ((0 ≤ i0) ∧ (i0 < (x.length : Int)) ∧ (Ln TTable (nT x i0)) ∧ (0 ≤ v0) ∧ (v0 ≤ 1048576) ∧ cond (decide ((M.szTable (nT x i0) v0) < Z0)) (K .ret (⟨[(4, dI (-1 : Int))], []⟩ : St)) ((∃ m_, m_ < m ∧ (L8 x left) 0 m_ (⟨[(0, .data TTb x), (1, dI (M.szTable (nT x i0) v0)), (5, dI (wrap64 (i0 + Z1)))], []⟩ : St) K))) (K (.exit 0) (⟨[(1, dI v0)], []⟩ : St))) := by kernel_rfl
theorem con8_ok : ConOk P 8 c8 := by
 refine con_okR (fn := f8) (code := bodyOf f8) (tab_ok tab_check cmp_check) consOk8 mixed func8 rfl rfl fun args hp K h0 => ?_
 obtain ⟨a0, a1, rfl, rfl, h1⟩ := args2_elim h0
 obtain ⟨x, rfl, h2⟩ := withD_elim h1
 obtain ⟨left, rfl, h3⟩ := withD_elim h2
 obtain ⟨h_x, p0, p1, hK⟩ := h3
 have h : ok (F.laws_szTableS x left) (fun r => K (dI r) []) := ok_of_eq (F.laws_szTableS_eq x left h_x p0 p1) hK
 refine ⟨⟨show (2 : Nat) ≤ 27 by decide, show (2 : Nat) ≤ 1000000 by decide⟩, ann8, (L8 x left), (.dat TInt), (loopsN1 (i0 := 0) (by kernel_rfl) ?_), ?_⟩
 ·clear h
  intro m_ s_ K_ h
  obtain ⟨hc0, i0, v0, rfl, hl0, rfl, hv0, h⟩ := (show LP8_0 x left m_ s_ K_ from h)
  rw [lvc8_0 x left i0 v0 _ K_]
  exact (loopE_step (t := TTable) hl0 h (fun ht0 h => ⟨hl0, ⟨ht0, ⟨(sm_nth h_x i0), ⟨(ok_guard h).1, have h := (ok_guard h).2; ⟨(ok_guard h).1, have h := (ok_guard h).2; (ok_cond h (fun b_16 h => (ok_ret h :)) (fun b_16 h => (loopE_next (t := TTable) (fun m hm => (show LP8_0 x left m _ _ from ⟨hc0, hm⟩)) (M.szTable (nT x i0) v0) rfl hl0 ht0 (sm_len h_x) trivial (ok_ret h :))))⟩⟩⟩⟩⟩) (fun h => (h trivial)))
 ·rw [vc8 x left K]
  exact (ok_cond h (fun b_1 h => (ok_ret h :)) (fun b_1 h => (loopE_start (t := TTable) (fun m hm => ⟨trivial, hm⟩) (wrap64 (left - (x.length : Int))) rfl trivial (ok_then h (fun v0 h hv0 => (ok_ret h :)) (fun q0 h => (ok_ret h :))))))
def c118 : Con := ⟨[.dat TPart, .dat TInt], fun args hp K => args2 (fun a0 a1 => withD TPart a0 fun x => withD TInt a1 fun left => (Ln TPart x) ∧ (0 ≤ left) ∧ (left ≤ 1048576) ∧ K (dI (M.szPart x left)) []) args hp, .plain⟩
def cons118 : Cons := [(152, c152)]
@[reducible] def C118 : Ctx := ⟨tab, fun t => memN t cmps, cons118, 12, [], 0, false⟩
theorem consOk118 : ConsOk P C118 := by
 refine consOk_cons (enter_ok (fn := f152) func152 (by kernel_rfl) rfl) con152_ok ?_
 exact consOk_nil
def ann118 : Nat → List Dir
 | 0 => [.fixRow 2 TPart, .keep [1, 2]]
 | 1 => [.keep [1]]
 | 2 => [.keep [1, 10]]
 | 3 => [.keep [4]]
 | 4 => [.keep [4]]
 | _ => []
def L118 (x : (TPart).D) (left : Int) : Loops := fun id m st_ K => match id with
 | _ => False
theorem vc118 (x : (TPart).D) (left : Int) (K : KA) : awp C118 (L118 x left) ann118 (bodyOf f118) ⟨argEnv 0 [.data TPart x, dI left], []⟩ (outK tab false f118.results.toList (hasBox []) (resK (.dat TInt) K)) =
 ((Ln TValue x.2.2.1) ∧ (0 ≤ left) ∧ (left ≤ 1048576) ∧ cond (decide ((M.szValue x.2.2.1 left) < Z0)) (K (dI (-1 : Int)) []) (K (dI (M.szValue x.2.2.1 left)) [])) := by kernel_rfl
theorem con118_ok : ConOk P 118 c118 := by
 refine con_okR (fn := f118) (code := bodyOf f118) (tab_ok tab_check cmp_check) consOk118 mixed func118 rfl rfl fun args hp K h0 => ?_
 obtain ⟨a0, a1, rfl, rfl, h1⟩ := args2_elim h0
 obtain ⟨x, rfl, h2⟩ := withD_elim h1
 obtain ⟨left, rfl, h3⟩ := withD_elim h2
 obtain ⟨h_x, p0, p1, hK⟩ := h3
 have h : ok (F.laws_szPart x left) (fun r => K (dI r) []) := ok_of_eq (F.laws_szPart_eq x left h_x p0 p1) hK
 refine ⟨⟨show (2 : Nat) ≤ 12 by decide, show (2 : Nat) ≤ 1000000 by decide⟩, ann118, (L118 x left), (.dat TInt), (no_loops (by kernel_rfl)), ?_⟩
 ·rw [vc118 x left K]
  exact ⟨h_x.2.2.1, ⟨p0, ⟨p1, (ok_cond h (fun b_1 h => (ok_ret h :)) (fun b_1 h => (ok_ret h :)))⟩⟩⟩
def c80 : Con := ⟨[.dat TPS, .dat TInt], fun args hp K => args2 (fun a0 a1 => withD TPS a0 fun x => withD TInt a1 fun left => (Ln TPS x) ∧ (0 ≤ left) ∧ (left ≤ 1048576) ∧ K (dI (M.szS M.szPart x left)) []) args hp, .plain⟩
def cons80 : Cons := [(118, c118)]
@[reducible] def C80 : Ctx := ⟨tab, fun t => memN t cmps, cons80, 27, [], 0, false⟩
theorem consOk80 : ConsOk P C80 := by
 refine consOk_cons (enter_ok (fn := f118) func118 (by kernel_rfl) rfl) con118_ok ?_
 exact consOk_nil
def ann80 : Nat → List Dir
 | 0 => [.keep [0, 1]]
 | 1 => [.keep [0, 1]]
 | 2 => [.keep [0, 1, 11]]
 | 3 => [.keep [4]]
 | 4 => [.keep [0, 1, 5]]
 | 5 => [.keep [0, 1, 5, 15]]
 | 6 => [.keep [0, 1, 5]]
 | 7 => [.keep [0, 1, 5]]
 | 8 => [.keep [0, 1, 5, 25]]
 | 9 => [.keep [4]]
 | 10 => [.keep [4]]
 | 100000 => [.keep [1]]
 | _ => []
@[reducible] def LP80_0 (x : LPt) (left : Int) (m : Nat) (st_ : St) (K : KX) : Prop := (True) ∧ LoopE (t := TPart) (fun (i0 : Int) (v0 : Int) => (⟨[(0, .data TPS x), (1, dI v0), (5, dI i0)], []⟩ : St)) x (F.laws_szPartS_l0 x left) (fun v0 : Int => True) (outD (fun v0 : Int => True → K (.exit 0) (⟨[(1, dI v0)], []⟩ : St)) (fun q0 : Unit => K .ret (⟨[(4, dI (-1 : Int))], []⟩ : St))) m st_
def L80 (x : LPt) (left : Int) : Loops := fun id m st_ K => match id with
 | 0 => LP80_0 x left m st_ K
 | _ => False
theorem vc80 (x : LPt) (left : Int) (K : KA) : awp C80 (L80 x left) ann80 (bodyOf f80) ⟨argEnv 0 [.data TPS x, dI left], []⟩ (outK tab false f80.results.toList (hasBox []) (resK (.dat TInt) K)) =
 (cond (decide (wrap64 (left - (x.length : Int)) < Z0)) (K (dI (-1 : Int)) []) ((∃ m_, (True) ∧ LoopE (t := TPart) (fun (i0 : Int) (v0 : Int) => (⟨[(0, .data TPS x), (1, dI v0), (5, dI i0)], []⟩ : St)) x (F.laws_szPartS_l0 x left) (fun v0 : Int => True) (outD (fun v0 : Int => True → K (dI v0) []) (fun q0 : Unit => K (dI (-1 : Int)) [])) m_ (⟨[(0, .data TPS x), (1, dI (wrap64 (left - (x.length : Int)))), (5, dI Z0)], []⟩ : St)))) := by kernel_rfl
theorem lvc80_0 (x : LPt) (left : Int)  (i0 : Int) (v0 : Int) (m : Nat) (K : KX) : awp C80 (L80 x left) ann80 (loopAt (bodyOf f80) 0) (⟨[(0, .data TPS x), (1, dI v0), (5, dI i0)], []⟩ : St) (thenW (fun s' => ∃ m', m' < m ∧ (L80 x left) 0 m' s' K) (exitN 0 (ann80 (behind 0)) K)) =
 (cond (decide (i0 < (x.length : Int))) ((0 ≤ i0) ∧ (i0 < (x.length : Int)) ∧ (Ln TPart (nP x i0)) ∧ (0 ≤ v0) ∧ (v0 ≤ 1048576) ∧ cond (decide ((M.szPart (nP x i0) v0) < Z0)) (K .ret (⟨[(4, dI (-1 : Int))], []⟩ : St)) ((∃ m_, m_ < m ∧ (L80 x left) 0 m_ (⟨[(0, .data TPS x), (1, dI (M.szPart (nP x i0) v0)), (5, dI (wrap64 (i0 + Z1)))], []⟩ : St) K))) (K (.exit 0) (⟨[(1, dI v0)], []⟩ : St))) := by kernel_rfl
theorem con80_ok : ConOk P 80 c80 := by
 refine con_okR (fn := f80) (code := bodyOf f80) (tab_ok tab_check cmp_check) consOk80 mixed func80 rfl rfl fun args hp K h0 => ?_
 obtain ⟨a0, a1, rfl, rfl, h1⟩ := args2_elim h0
 obtain ⟨x, rfl, h2⟩ := withD_elim h1
 obtain ⟨left, rfl, h3⟩ := withD_elim h2
 obtain ⟨h_x, p0, p1, hK⟩ := h3
 have h : ok (F.laws_szPartS x left) (fun r => K (dI r) []) := ok_of_eq (F.laws_szPartS_eq x left h_x p0 p1) hK
 refine ⟨⟨show (2 : Nat) ≤ 27 by decide, show (2 : Nat) ≤ 1000000 by decide⟩, ann80, (L80 x left), (.dat TInt), (loopsN1 (i0 := 0) (by kernel_rfl) ?_), ?_⟩
 ·clear h
  intro m_ s_ K_ h
  obtain ⟨hc0, i0, v0, rfl, hl0, rfl, hv0, h⟩ := (show LP80_0 x left m_ s_ K_ from h)
  rw [lvc80_0 x left i0 v0 _ K_]
  exact (loopE_step (t := TPart) hl0 h (fun ht0 h => ⟨hl0, ⟨ht0, ⟨(sm_nth h_x i0), ⟨(ok_guard h).1, have h := (ok_guard h).2; ⟨(ok_guard h).1, have h := (ok_guard h).2; (ok_cond h (fun b_16 h => (ok_ret h :)) (fun b_16 h => (loopE_next (t := TPart) (fun m hm => (show LP80_0 x left m _ _ from ⟨hc0, hm⟩)) (M.szPart (nP x i0) v0) rfl hl0 ht0 (sm_len h_x) trivial (ok_ret h :))))⟩⟩⟩⟩⟩) (fun h => (h trivial)))
 ·rw [vc80 x left K]
  exact (ok_cond h (fun b_1 h => (ok_ret h :)) (fun b_1 h => (loopE_start (t := TPart) (fun m hm => ⟨trivial, hm⟩) (wrap64 (left - (x.length : Int))) rfl trivial (ok_then h (fun v0 h hv0 => (ok_ret h :)) (fun q0 h => (ok_ret h :))))))
def c81 : Con := ⟨[.dat (Ty.sl TInt), .dat TInt], fun args hp K => args2 (fun a0 a1 => withD (Ty.sl TInt) a0 fun x => withD TInt a1 fun left => (Ln (Ty.sl TInt) x) ∧ (0 ≤ left) ∧ (left ≤ 1048576) ∧ K (dI (M.szLen x.length left)) []) args hp, .plain⟩
def cons81 : Cons := []
@[reducible] def C81 : Ctx := ⟨tab, fun t => memN t cmps, cons81, 12, [], 0, false⟩
theorem consOk81 : ConsOk P C81 := by
 exact consOk_nil
def ann81 : Nat → List Dir
 | 0 => [.keep [0, 1]]
 | 1 => [.keep [1]]
 | 2 => [.keep [1, 10]]
 | 3 => [.keep [4]]
 | 4 => [.keep [4]]
 | _ => []
def L81 (x : (List Int)) (left : Int) : Loops := fun id m st_ K => match id with
 | _ => False
theorem vc81 (x : (List Int)) (left : Int) (K : KA) : awp C81 (L81 x left) ann81 (bodyOf f81) ⟨argEnv 0 [.data (Ty.sl TInt) x, dI left], []⟩ (outK tab false f81.results.toList (hasBox []) (resK (.dat TInt) K)) =
 (cond (decide (wrap64 (left - (x.length : Int)) < Z0)) (K (dI (-1 : Int)) []) (K (dI (wrap64 (left - (x.length : Int)))) [])) := by kernel_rfl
theorem con81_ok : ConOk P 81 c81 := by
 refine con_okR (fn := f81) (code := bodyOf f81) (tab_ok tab_check cmp_check) consOk81 mixed func81 rfl rfl fun args hp K h0 => ?_
 obtain ⟨a0, a1, rfl, rfl, h1⟩ := args2_elim h0
 obtain ⟨x, rfl, h2⟩ := withD_elim h1
 obtain ⟨left, rfl, h3⟩ := withD_elim h2
 obtain ⟨h_x, p0, p1, hK⟩ := h3
 have h : ok (F.laws_szIntS x left) (fun r => K (dI r) []) := ok_of_eq (F.laws_szIntS_eq x left h_x p0 p1) hK
 refine ⟨⟨show (2 : Nat) ≤ 12 by decide, show (2 : Nat) ≤ 1000000 by decide⟩, ann81, (L81 x left), (.dat TInt), (no_loops (by kernel_rfl)), ?_⟩
 ·rw [vc81 x left K]
  exact (ok_cond h (fun b_1 h => (ok_ret h :)) (fun b_1 h => (ok_ret h :)))
def c36 : Con := ⟨[.dat TStep, .dat TInt], fun args hp K => args2 (fun a0 a1 => withD TStep a0 fun x => withD TInt a1 fun left => (Ln TStep x) ∧ (0 ≤ left) ∧ (left ≤ 1048576) ∧ K (dI (M.szStep x left)) []) args hp, .plain⟩
def cons36 : Cons := [(80, c80), (81, c81)]
@[reducible] def C36 : Ctx := ⟨tab, fun t => memN t cmps, cons36, 18, [], 0, false⟩
theorem consOk36 : ConsOk P C36 := by
 refine consOk_cons (enter_ok (fn := f80) func80 (by kernel_rfl) rfl) con80_ok ?_
 refine consOk_cons (enter_ok (fn := f81) func81 (by kernel_rfl) rfl) con81_ok ?_
 exact consOk_nil
def ann36 : Nat → List Dir
 | 0 => [.fixRow 2 TStep, .keep [1, 2]]
 | 1 => [.keep [1, 2]]
 | 2 => [.keep [1, 2, 10]]
 | 3 => [.keep [4]]
 | 4 => [.keep [1]]
 | 5 => [.keep [1, 16]]
 | 6 => [.keep [4]]
 | 7 => [.keep [4]]
 | _ => []
def L36 (x : (TStep).D) (left : Int) : Loops := fun id m st_ K => match id with
 | _ => False
theorem vc36 (x : (TStep).D) (left : Int) (K : KA) : awp C36 (L36 x left) ann36 (bodyOf f36) ⟨argEnv 0 [.data TStep x, dI left], []⟩ (outK tab false f36.results.toList (hasBox []) (resK (.dat TInt) K)) =
 ((Ln TPS x.2.2.2.2.1) ∧ (0 ≤ left) ∧ (left ≤ 1048576) ∧ cond (decide ((M.szS M.szPart x.2.2.2.2.1 left) < Z0)) (K (dI (-1 : Int)) []) ((Ln (Ty.sl TInt) x.2.2.2.2.2.1) ∧ (0 ≤ (M.szS M.szPart x.2.2.2.2.1 left)) ∧ ((M.szS M.szPart x.2.2.2.2.1 left) ≤ 1048576) ∧ cond (decide ((M.szLen x.2.2.2.2.2.1.length (M.szS M.szPart x.2.2.2.2.1 left)) < Z0)) (K (dI (-1 : Int)) []) (K (dI (M.szLen x.2.2.2.2.2.1.length (M.szS M.szPart x.2.2.2.2.1 left))) []))) := by kernel_rfl
theorem con36_ok : ConOk P 36 c36 := by
 refine con_okR (fn := f36) (code := bodyOf f36) (tab_ok tab_check cmp_check) consOk36 mixed func36 rfl rfl fun args hp K h0 => ?_
 obtain ⟨a0, a1, rfl, rfl, h1⟩ := args2_elim h0
 obtain ⟨x, rfl, h2⟩ := withD_elim h1
 obtain ⟨left, rfl, h3⟩ := withD_elim h2
 obtain ⟨h_x, p0, p1, hK⟩ := h3
 have h : ok (F.laws_szStep x left) (fun r => K (dI r) []) := ok_of_eq (F.laws_szStep_eq x left h_x p0 p1) hK
 refine ⟨⟨show (2 : Nat) ≤ 18 by decide, show (2 : Nat) ≤ 1000000 by decide⟩, ann36, (L36 x left), (.dat TInt), (no_loops (by kernel_rfl)), ?_⟩
 ·rw [vc36 x left K]
  exact ⟨h_x.2.2.2.2.1, ⟨p0, ⟨p1, (ok_cond h (fun b_1 h => (ok_ret h :)) (fun b_1 h => ⟨h_x.2.2.2.2.2.1, ⟨(ok_guard h).1, have h := (ok_guard h).2; ⟨(ok_guard h).1, have h := (ok_guard h).2; (ok_cond h (fun b_4 h => (ok_ret h :)) (fun b_4 h => (ok_ret h :)))⟩⟩⟩))⟩⟩⟩
def c9 : Con := ⟨[.dat TSS, .dat TInt], fun args hp K => args2 (fun a0 a1 => withD TSS a0 fun x => withD TInt a1 fun left => (Ln TSS x) ∧ (0 ≤ left) ∧ (left ≤ 1048576) ∧ K (dI (M.szS M.szStep x left)) []) args hp, .plain⟩
def cons9 : Cons := [(36, c36)]
@[reducible] def C9 : Ctx := ⟨tab, fun t => memN t cmps, cons9, 27, [], 0, false⟩
theorem consOk9 : ConsOk P C9 := by
 refine consOk_cons (enter_ok (fn := f36) func36 (by kernel_rfl) rfl) con36_ok ?_
 exact consOk_nil
def ann9 : Nat → List Dir
 | 0 => [.keep [0, 1]]
 | 1 => [.keep [0, 1]]
 | 2 => [.keep [0, 1, 11]]
 | 3 => [.keep [4]]
 | 4 => [.keep [0, 1, 5]]
 | 5 => [.keep [0, 1, 5, 15]]
 | 6 => [.keep [0, 1, 5]]
 | 7 => [.keep [0, 1, 5]]
 | 8 => [.keep [0, 1, 5, 25]]
 | 9 => [.keep [4]]
 | 10 => [.keep [4]]
 | 100000 => [.keep [1]]
 | _ => []
@[reducible] def LP9_0 (x : LS) (left : Int) (m : Nat) (st_ : St) (K : KX) : Prop := (True) ∧ LoopE (t := TStep) (fun (i0 : Int) (v0 : Int) => (⟨[(0, .data TSS x), (1, dI v0), (5, dI i0)], []⟩ : St)) x (F.laws_szStepS_l0 x left) (fun v0 : Int => True) (outD (fun v0 : Int => True → K (.exit 0) (⟨[(1, dI v0)], []⟩ : St)) (fun q0 : Unit => K .ret (⟨[(4, dI (-1 : Int))], []⟩ : St))) m st_
def L9 (x : LS) (left : Int) : Loops := fun id m st_ K => match id with
 | 0 => LP9_0 x left m st_ K
 | _ => False
theorem vc9 (x : LS) (left : Int) (K : KA) : awp C9 (L9 x left) ann9 (bodyOf f9) ⟨argEnv 0 [.data TSS x, dI left], []⟩ (outK tab false f9.results.toList (hasBox []) (resK (.dat TInt) K)) =
 (cond (decide (wrap64 (left - (x.length : Int)) < Z0)) (K (dI (-1 : Int)) []) ((∃ m_, (True) ∧ LoopE (t := TStep) (fun (i0 : Int) (v0 : Int) => (⟨[(0, .data TSS x), (1, dI v0), (5, dI i0)], []⟩ : St)) x (F.laws_szStepS_l0 x left) (fun v0 : Int => True) (outD (fun v0 : Int => True → K (dI v0) []) (fun q0 : Unit => K (dI (-1 : Int)) [])) m_ (⟨[(0, .data TSS x), (1, dI (wrap64 (left - (x.length : Int)))), (5, dI Z0)], []⟩ : St)))) := by kernel_rfl
theorem lvc9_0 (x : LS) (left : Int)  (i0 : Int) (v0 : Int) (m : Nat) (K : KX) : awp C9 (L9 x left) ann9 (loopAt (bodyOf f9) 0) (⟨[(0, .data TSS x), (1, dI v0), (5, dI i0)], []⟩ : St) (thenW (fun s' => ∃ m', m' < m ∧ (L9 x left) 0 m' s' K) (exitN 0 (ann9 (behind 0)) K)) =
 (cond (decide (i0 < (x.length : Int))) ((0 ≤ i0) ∧ (i0 < (x.length : Int)) ∧ (Ln TStep (nS x i0)) ∧ (0 ≤ v0) ∧ (v0 ≤ 1048576) ∧ cond (decide ((M.szStep (nS x i0) v0) < Z0)) (K .ret (⟨[(4, dI (-1 : Int))], []⟩ : St)) ((∃ m_, m_ < m ∧ (L9 x left) 0 m_ (⟨[(0, .data TSS x), (1, dI (M.szStep (nS x i0) v0)), (5, dI (wrap64 (i0 + Z1)))], []⟩ : St) K))) (K (.exit 0) (⟨[(1, dI v0)], []⟩ : St))) := by kernel_rfl
theorem con9_ok : ConOk P 9 c9 := by
 refine con_okR (fn := f9) (code := bodyOf f9) (tab_ok tab_check cmp_check) consOk9 mixed func9 rfl rfl fun args hp K h0 => ?_
 obtain ⟨a0, a1, rfl, rfl, h1⟩ := args2_elim h0
 obtain ⟨x, rfl, h2⟩ := withD_elim h1
 obtain ⟨left, rfl, h3⟩ := withD_elim h2
 obtain ⟨h_x, p0, p1, hK⟩ := h3
 have h : ok (F.laws_szStepS x left) (fun r => K (dI r) []) := ok_of_eq (F.laws_szStepS_eq x left h_x p0 p1) hK
 refine ⟨⟨show (2 : Nat) ≤ 27 by decide, show (2 : Nat) ≤ 1000000 by decide⟩, ann9, (L9 x left), (.dat TInt), (loopsN1 (i0 := 0) (by kernel_rfl) ?_), ?_⟩
 ·clear h
  intro m_ s_ K_ h
  obtain ⟨hc0, i0, v0, rfl, hl0, rfl, hv0, h⟩ := (show LP9_0 x left m_ s_ K_ from h)
  rw [lvc9_0 x left i0 v0 _ K_]
  exact (loopE_step (t := TStep) hl0 h (fun ht0 h => ⟨hl0, ⟨ht0, ⟨(sm_nth h_x i0), ⟨(ok_guard h).1, have h := (ok_guard h).2; ⟨(ok_guard h).1, have h := (ok_guard h).2; (ok_cond h (fun b_16 h => (ok_ret h :)) (fun b_16 h => (loopE_next (t := TStep) (fun m hm => (show LP9_0 x left m _ _ from ⟨hc0, hm⟩)) (M.szStep (nS x i0) v0) rfl hl0 ht0 (sm_len h_x) trivial (ok_ret h :))))⟩⟩⟩⟩⟩) (fun h => (h trivial)))
 ·rw [vc9 x left K]
  exact (ok_cond h (fun b_1 h => (ok_ret h :)) (fun b_1 h => (loopE_start (t := TStep) (fun m hm => ⟨trivial, hm⟩) (wrap64 (left - (x.length : Int))) rfl trivial (ok_then h (fun v0 h hv0 => (ok_ret h :)) (fun q0 h => (ok_ret h :))))))
def c120 : Con := ⟨[.dat TColumn], fun args hp K => args1 (fun a0 => withD TColumn a0 fun x => (∀ r : (TColumn).D, r = (x) → K (.data TColumn r) [])) args hp, .plain⟩
def cons120 : Cons := []
@[reducible] def C120 : Ctx := ⟨tab, fun t => memN t cmps, cons120, 11, [], 0, false⟩
theorem consOk120 : ConsOk P C120 := by
 exact consOk_nil
def ann120 : Nat → List Dir
 | 0 => [.fixRow 1 TColumn, .keep [1, 2]]
 | 1 => [.keep [1, 2, 3]]
 | 2 => [.keep [1, 2, 3]]
 | 3 => [.keep [2, 3]]
 | 4 => [.keep [2]]
 | _ => []
def L120 (x : (TColumn).D) : Loops := fun id m st_ K => match id with
 | _ => False
theorem vc120 (x : (TColumn).D) (K : KA) : awp C120 (L120 x) ann120 (bodyOf f120) ⟨argEnv 0 [.data TColumn x], []⟩ (outK tab false f120.results.toList (hasBox []) (resK (.dat TColumn) K)) =
 (K (.data TColumn x) []) := by kernel_rfl
theorem con120_ok : ConOk P 120 c120 := by
 refine con_okR (fn := f120) (code := bodyOf f120) (tab_ok tab_check cmp_check) consOk120 mixed func120 rfl rfl fun args hp K h0 => ?_
 obtain ⟨a0, rfl, rfl, h1⟩ := args1_elim h0
 obtain ⟨x, rfl, h2⟩ := withD_elim h1
 have hK := h2
 have h : ok (F.laws_toColumn x) (fun r => K (.data TColumn r) []) := ok_of_eq (F.laws_toColumn_eq x) (hK _ rfl)
 refine ⟨⟨show (1 : Nat) ≤ 11 by decide, show (1 : Nat) ≤ 1000000 by decide⟩, ann120, (L120 x), (.dat TColumn), (no_loops (by kernel_rfl)), ?_⟩
 ·rw [vc120 x K]
  exact (ok_ret h :)
def c83 : Con := ⟨[.dat TCS], fun args hp K => args1 (fun a0 => withD TCS a0 fun x => (Sm TCS x) ∧ (∀ r : LC, r = (x) → K (.own 0 none) [(0, .arr false TColumn r)])) args hp, .plain⟩
def cons83 : Cons := [(120, c120)]
@[reducible] def C83 : Ctx := ⟨tab, fun t => memN t cmps, cons83, 23, [], 0, false⟩
theorem consOk83 : ConsOk P C83 := by
 refine consOk_cons (enter_ok (fn := f120) func120 (by kernel_rfl) rfl) con120_ok ?_
 exact consOk_nil
def ann83 : Nat → List Dir
 | 0 => [.keep [0]]
 | 1 => [.keep [0, 3]]
 | 2 => [.keep [0, 3, 4]]
 | 3 => [.keep [0, 3, 4, 11]]
 | 4 => [.keep [0, 3, 4]]
 | 5 => [.keep [0, 3, 4]]
 | 6 => [.keep [2]]
 | 100000 => [.keep [3]]
 | _ => []
@[reducible] def LP83_0 (x : LC) (m : Nat) (st_ : St) (K : KX) : Prop := (True) ∧ LoopI (fun (i0 : Int) (v0 : LC) => (⟨[(0, .data TCS x), (3, .own 7 none), (4, dI i0)], [(7, .arr false TColumn v0)]⟩ : St)) Z0 (x.length : Int) (F.laws_toColumnS_l0 x) (fun v0 : LC => True) (outD (fun v0 : LC => True → K (.exit 0) (⟨[(3, .own 7 none)], [(7, .arr false TColumn v0)]⟩ : St)) (fun _ => False)) m st_
def L83 (x : LC) : Loops := fun id m st_ K => match id with
 | 0 => LP83_0 x m st_ K
 | _ => False
theorem vc83 (x : LC) (K : KA) : awp C83 (L83 x) ann83 (bodyOf f83) ⟨argEnv 0 [.data TCS x], []⟩ (outK tab false f83.results.toList (hasBox []) (resK .raw K)) =
 (((x.length : Int) = (x.length : Int)) ∧ (0 ≤ (x.length : Int)) ∧ ((x.length : Int) * 16 ≤ (lim : Int)) ∧ (∃ m_, (True) ∧ LoopI (fun (i0 : Int) (v0 : LC) => (⟨[(0, .data TCS x), (3, .own 7 none), (4, dI i0)], [(7, .arr false TColumn v0)]⟩ : St)) Z0 (x.length : Int) (F.laws_toColumnS_l0 x) (fun v0 : LC => True) (outD (fun v0 : LC => True → K (.own 0 none) [(0, .arr false TColumn v0)]) (fun _ => False)) m_ (⟨[(0, .data TCS x), (3, .own 7 none), (4, dI Z0)], [(7, .arr false TColumn (List.replicate (x.length : Int).toNat (Z0, (false, ()))))]⟩ : St))) := by kernel_rfl
theorem lvc83_0 (x : LC)  (i0 : Int) (v0 : LC) (m : Nat) (K : KX) : awp C83 (L83 x) ann83 (loopAt (bodyOf f83) 0) (⟨[(0, .data TCS x), (3, .own 7 none), (4, dI i0)], [(7, .arr false TColumn v0)]⟩ : St) (thenW (fun s' => ∃ m', m' < m ∧ (L83 x) 0 m' s' K) (exitN 0 (ann83 (behind 0)) K)) =
 (cond (decide (i0 < (x.length : Int))) ((0 ≤ i0) ∧ (i0 < (x.length : Int)) ∧ (∀ r_5_6 : (TColumn).D, r_5_6 = ((nC x i0)) → (0 ≤ i0) ∧ (i0 < (v0.length : Int)) ∧ (∃ m_, m_ < m ∧ (L83 x) 0 m_ (⟨[(0, .data TCS x), (3, .own 7 none), (4, dI (wrap64 (i0 + Z1)))], [(7, .arr false TColumn (v0.set i0.toNat r_5_6))]⟩ : St) K))) (K (.exit 0) (⟨[(3, .own 7 none)], [(7, .arr false TColumn v0)]⟩ : St))) := by kernel_rfl
theorem con83_ok : ConOk P 83 c83 := by
 refine con_okR (fn := f83) (code := bodyOf f83) (tab_ok tab_check cmp_check) consOk83 mixed func83 rfl rfl fun args hp K h0 => ?_
 obtain ⟨a0, rfl, rfl, h1⟩ := args1_elim h0
 obtain ⟨x, rfl, h2⟩ := withD_elim h1
 obtain ⟨h_x, hK⟩ := h2
 have h : ok (F.laws_toColumnS x) (fun r => K (.own 0 none) [(0, .arr false TColumn r)]) := ok_of_eq (F.laws_toColumnS_eq x h_x) (hK _ rfl)
 refine ⟨⟨show (1 : Nat) ≤ 23 by decide, show (1 : Nat) ≤ 1000000 by decide⟩, ann83, (L83 x), .raw, (loopsN1 (i0 := 0) (by kernel_rfl) ?_), ?_⟩
 ·clear h
  intro m_ s_ K_ h
  obtain ⟨hc0, i0, v0, rfl, hl0, rfl, hv0, h⟩ := (show LP83_0 x m_ s_ K_ from h)
  rw [lvc83_0 x i0 v0 _ K_]
  exact (loopI_step h (fun ht0 h => ⟨hl0, ⟨ht0, (fun r_5_6 e_r_5_6 => have h := ok_let h r_5_6 e_r_5_6; ⟨hl0, ⟨(ok_guard h).1, have h := (ok_guard h).2; (loopI_next (fun m hm => (show LP83_0 x m _ _ from ⟨hc0, hm⟩)) (v0.set i0.toNat r_5_6) rfl hl0 low0 ht0 (sm_len h_x) trivial (ok_ret h :))⟩⟩)⟩⟩) (fun h => (h trivial)))
 ·rw [vc83 x K]
  exact ⟨rfl, ⟨(Int.natCast_nonneg _), ⟨(sm_limI h_x rfl), (loopI_start (fun m hm => ⟨trivial, hm⟩) Z0 (List.replicate (x.length : Int).toNat (Z0, (false, ()))) rfl (Int.natCast_nonneg 0) trivial (ok_then h (fun v0 h hv0 => (ok_ret h :)) (fun _ h => h.elim)))⟩⟩⟩
def c154 : Con := ⟨[.dat TValue], fun args hp K => args1 (fun a0 => withD TValue a0 fun x => (Sm TValue x) ∧ (∀ r : (TValue).D, r = (x) → K (.data TValue r) [])) args hp, .plain⟩
def cons154 : Cons := []
@[reducible] def C154 : Ctx := ⟨tab, fun t => memN t cmps, cons154, 14, [], 0, false⟩
theorem consOk154 : ConsOk P C154 := by
 exact consOk_nil
def ann154 : Nat → List Dir
 | 0 => [.fixRow 1 TValue, .keep [1, 2]]
 | 1 => [.keep [1, 2, 3]]
 | 2 => [.keep [1, 2, 3]]
 | 3 => [.keep [1, 2, 3]]
 | 4 => [.keep [2, 3]]
 | 5 => [.keep [2]]
 | _ => []
def L154 (x : (TValue).D) : Loops := fun id m st_ K => match id with
 | _ => False
theorem vc154 (x : (TValue).D) (K : KA) : awp C154 (L154 x) ann154 (bodyOf f154) ⟨argEnv 0 [.data TValue x], []⟩ (outK tab false f154.results.toList (hasBox []) (resK (.dat TValue) K)) =
 (K (.data TValue x) []) := by kernel_rfl
theorem con154_ok : ConOk P 154 c154 := by
 refine con_okR (fn := f154) (code := bodyOf f154) (tab_ok tab_check cmp_check) consOk154 mixed func154 rfl rfl fun args hp K h0 => ?_
 obtain ⟨a0, rfl, rfl, h1⟩ := args1_elim h0
 obtain ⟨x, rfl, h2⟩ := withD_elim h1
 obtain ⟨h_x, hK⟩ := h2
 have h : ok (F.laws_toValue x) (fun r => K (.data TValue r) []) := ok_of_eq (F.laws_toValue_eq x h_x) (hK _ rfl)
 refine ⟨⟨show (1 : Nat) ≤ 14 by decide, show (1 : Nat) ≤ 1000000 by decide⟩, ann154, (L154 x), (.dat TValue), (no_loops (by kernel_rfl)), ?_⟩
 ·rw [vc154 x K]
  exact (ok_ret h :)
def c121 : Con := ⟨[.dat TVS], fun args hp K => args1 (fun a0 => withD TVS a0 fun x => (Sm TVS x) ∧ (∀ r : LV, r = (x) → K (.own 0 none) [(0, .arr false TValue r)])) args hp, .plain⟩
def cons121 : Cons := [(154, c154)]
@[reducible] def C121 : Ctx := ⟨tab, fun t => memN t cmps, cons121, 23, [], 0, false⟩
theorem consOk121 : ConsOk P C121 := by
 refine consOk_cons (enter_ok (fn := f154) func154 (by kernel_rfl) rfl) con154_ok ?_
 exact consOk_nil
def ann121 : Nat → List Dir
 | 0 => [.keep [0]]
 | 1 => [.keep [0, 3]]
 | 2 => [.keep [0, 3, 4]]
 | 3 => [.keep [0, 3, 4, 11]]
 | 4 => [.keep [0, 3, 4]]
 | 5 => [.keep [0, 3, 4]]
 | 6 => [.keep [2]]
 | 100000 => [.keep [3]]
 | _ => []
@[reducible] def LP121_0 (x : LV) (m : Nat) (st_ : St) (K : KX) : Prop := (True) ∧ LoopI (fun (i0 : Int) (v0 : LV) => (⟨[(0, .data TVS x), (3, .own 7 none), (4, dI i0)], [(7, .arr false TValue v0)]⟩ : St)) Z0 (x.length : Int) (F.laws_toValueS_l0 x) (fun v0 : LV => True) (outD (fun v0 : LV => True → K (.exit 0) (⟨[(3, .own 7 none)], [(7, .arr false TValue v0)]⟩ : St)) (fun _ => False)) m st_
def L121 (x : LV) : Loops := fun id m st_ K => match id with
 | 0 => LP121_0 x m st_ K
 | _ => False
theorem vc121 (x : LV) (K : KA) : awp C121 (L121 x) ann121 (bodyOf f121) ⟨argEnv 0 [.data TVS x], []⟩ (outK tab false f121.results.toList (hasBox []) (resK .raw K)) =
 (((x.length : Int) = (x.length : Int)) ∧ (0 ≤ (x.length : Int)) ∧ ((x.length : Int) * 32 ≤ (lim : Int)) ∧ (∃ m_, (True) ∧ LoopI (fun (i0 : Int) (v0 : LV) => (⟨[(0, .data TVS x), (3, .own 7 none), (4, dI i0)], [(7, .arr false TValue v0)]⟩ : St)) Z0 (x.length : Int) (F.laws_toValueS_l0 x) (fun v0 : LV => True) (outD (fun v0 : LV => True → K (.own 0 none) [(0, .arr false TValue v0)]) (fun _ => False)) m_ (⟨[(0, .data TVS x), (3, .own 7 none), (4, dI Z0)], [(7, .arr false TValue (List.replicate (x.length : Int).toNat (Z0, (Z0, ((⟨#[]⟩ : ByteArray), ())))))]⟩ : St))) := by kernel_rfl
theorem lvc121_0 (x : LV)  (i0 : Int) (v0 : LV) (m : Nat) (K : KX) : awp C121 (L121 x) ann121 (loopAt (bodyOf f121) 0) (⟨[(0, .data TVS x), (3, .own 7 none), (4, dI i0)], [(7, .arr false TValue v0)]⟩ : St) (thenW (fun s' => ∃ m', m' < m ∧ (L121 x) 0 m' s' K) (exitN 0 (ann121 (behind 0)) K)) =
 (cond (decide (i0 < (x.length : Int))) ((0 ≤ i0) ∧ (i0 < (x.length : Int)) ∧ (Sm TValue (nV x i0)) ∧ (∀ r_5_6 : (TValue).D, r_5_6 = ((nV x i0)) → (0 ≤ i0) ∧ (i0 < (v0.length : Int)) ∧ (∃ m_, m_ < m ∧ (L121 x) 0 m_ (⟨[(0, .data TVS x), (3, .own 7 none), (4, dI (wrap64 (i0 + Z1)))], [(7, .arr false TValue (v0.set i0.toNat r_5_6))]⟩ : St) K))) (K (.exit 0) (⟨[(3, .own 7 none)], [(7, .arr false TValue v0)]⟩ : St))) := by kernel_rfl
theorem con121_ok : ConOk P 121 c121 := by
 refine con_okR (fn := f121) (code := bodyOf f121) (tab_ok tab_check cmp_check) consOk121 mixed func121 rfl rfl fun args hp K h0 => ?_
 obtain ⟨a0, rfl, rfl, h1⟩ := args1_elim h0
 obtain ⟨x, rfl, h2⟩ := withD_elim h1
 obtain ⟨h_x, hK⟩ := h2
 have h : ok (F.laws_toValueS x) (fun r => K (.own 0 none) [(0, .arr false TValue r)]) := ok_of_eq (F.laws_toValueS_eq x h_x) (hK _ rfl)
 refine ⟨⟨show (1 : Nat) ≤ 23 by decide, show (1 : Nat) ≤ 1000000 by decide⟩, ann121, (L121 x), .raw, (loopsN1 (i0 := 0) (by kernel_rfl) ?_), ?_⟩
 ·clear h
  intro m_ s_ K_ h
  obtain ⟨hc0, i0, v0, rfl, hl0, rfl, hv0, h⟩ := (show LP121_0 x m_ s_ K_ from h)
  rw [lvc121_0 x i0 v0 _ K_]
  exact (loopI_step h (fun ht0 h => ⟨hl0, ⟨ht0, ⟨(sm_nth h_x i0), (fun r_5_6 e_r_5_6 => have h := ok_let h r_5_6 e_r_5_6; ⟨hl0, ⟨(ok_guard h).1, have h := (ok_guard h).2; (loopI_next (fun m hm => (show LP121_0 x m _ _ from ⟨hc0, hm⟩)) (v0.set i0.toNat r_5_6) rfl hl0 low0 ht0 (sm_len h_x) trivial (ok_ret h :))⟩⟩)⟩⟩⟩) (fun h => (h trivial)))
 ·rw [vc121 x K]
  exact ⟨rfl, ⟨(Int.natCast_nonneg _), ⟨(sm_limI h_x rfl), (loopI_start (fun m hm => ⟨trivial, hm⟩) Z0 (List.replicate (x.length : Int).toNat (Z0, (Z0, ((⟨#[]⟩ : ByteArray), ())))) rfl (Int.natCast_nonneg 0) trivial (ok_then h (fun v0 h hv0 => (ok_ret h :)) (fun _ h => h.elim)))⟩⟩⟩
def c84 : Con := ⟨[.dat (Ty.sl TVS)], fun args hp K => args1 (fun a0 => withD (Ty.sl TVS) a0 fun x => (Sm (Ty.sl TVS) x) ∧ (∀ r : (List LV), r = (x) → K (.own 0 none) [(0, .arr true TVS r)])) args hp, .plain⟩
def cons84 : Cons := [(121, c121)]
@[reducible] def C84 : Ctx := ⟨tab, fun t => memN t cmps, cons84, 23, [], 0, true⟩
theorem consOk84 : ConsOk P C84 := by
 refine consOk_cons (enter_ok (fn := f121) func121 (by kernel_rfl) rfl) con121_ok ?_
 exact consOk_nil
def ann84 : Nat → List Dir
 | 0 => [.keep [0]]
 | 1 => [.keep [0, 3]]
 | 2 => [.keep [0, 3, 4]]
 | 3 => [.keep [0, 3, 4, 11]]
 | 4 => [.keep [0, 3, 4]]
 | 5 => [.keep [0, 3, 4]]
 | 6 => [.keep [2]]
 | 100000 => [.keep [3]]
 | _ => []
@[reducible] def LP84_0 (x : (List LV)) (m : Nat) (st_ : St) (K : KX) : Prop := (True) ∧ LoopI (fun (i0 : Int) (v0 : (List LV)) => (⟨[(0, .data (Ty.sl TVS) x), (3, .own 7 none), (4, dI i0)], [(7, .arr true TVS v0)]⟩ : St)) Z0 (x.length : Int) (F.laws_toValueSS_l0 x) (fun v0 : (List LV) => True) (outD (fun v0 : (List LV) => True → K (.exit 0) (⟨[(3, .own 7 none)], [(7, .arr true TVS v0)]⟩ : St)) (fun _ => False)) m st_
def L84 (x : (List LV)) : Loops := fun id m st_ K => match id with
 | 0 => LP84_0 x m st_ K
 | _ => False
theorem vc84 (x : (List LV)) (K : KA) : awp C84 (L84 x) ann84 (bodyOf f84) ⟨argEnv 0 [.data (Ty.sl TVS) x], []⟩ (outK tab true f84.results.toList (hasBox []) (resK .raw K)) =
 (((x.length : Int) = (x.length : Int)) ∧ (0 ≤ (x.length : Int)) ∧ ((x.length : Int) * 24 ≤ (lim : Int)) ∧ (∃ m_, (True) ∧ LoopI (fun (i0 : Int) (v0 : (List LV)) => (⟨[(0, .data (Ty.sl TVS) x), (3, .own 7 none), (4, dI i0)], [(7, .arr true TVS v0)]⟩ : St)) Z0 (x.length : Int) (F.laws_toValueSS_l0 x) (fun v0 : (List LV) => True) (outD (fun v0 : (List LV) => True → K (.own 0 none) [(0, .arr true TVS v0)]) (fun _ => False)) m_ (⟨[(0, .data (Ty.sl TVS) x), (3, .own 7 none), (4, dI Z0)], [(7, .arr true TVS (List.replicate (x.length : Int).toNat []))]⟩ : St))) := by kernel_rfl
theorem lvc84_0 (x : (List LV))  (i0 : Int) (v0 : (List LV)) (m : Nat) (K : KX) : awp C84 (L84 x) ann84 (loopAt (bodyOf f84) 0) (⟨[(0, .data (Ty.sl TVS) x), (3, .own 7 none), (4, dI i0)], [(7, .arr true TVS v0)]⟩ : St) (thenW (fun s' => ∃ m', m' < m ∧ (L84 x) 0 m' s' K) (exitN 0 (ann84 (behind 0)) K)) =
 (cond (decide (i0 < (x.length : Int))) ((0 ≤ i0) ∧ (i0 < (x.length : Int)) ∧ (Sm TVS (nth (t := TVS) x i0)) ∧ (∀ r_5_6 : LV, r_5_6 = ((nth (t := TVS) x i0)) → (0 ≤ i0) ∧ (i0 < (v0.length : Int)) ∧ (∃ m_, m_ < m ∧ (L84 x) 0 m_ (⟨[(0, .data (Ty.sl TVS) x), (3, .own 7 none), (4, dI (wrap64 (i0 + Z1)))], [(7, .arr true TVS (v0.set i0.toNat r_5_6))]⟩ : St) K))) (K (.exit 0) (⟨[(3, .own 7 none)], [(7, .arr true TVS v0)]⟩ : St))) := by kernel_rfl
theorem con84_ok : ConOk P 84 c84 := by
 refine con_okR (fn := f84) (code := bodyOf f84) (tab_ok tab_check cmp_check) consOk84 mixed func84 rfl rfl fun args hp K h0 => ?_
 obtain ⟨a0, rfl, rfl, h1⟩ := args1_elim h0
 obtain ⟨x, rfl, h2⟩ := withD_elim h1
 obtain ⟨h_x, hK⟩ := h2
 have h : ok (F.laws_toValueSS x) (fun r => K (.own 0 none) [(0, .arr true TVS r)]) := ok_of_eq (F.laws_toValueSS_eq x h_x) (hK _ rfl)
 refine ⟨⟨show (1 : Nat) ≤ 23 by decide, show (1 : Nat) ≤ 1000000 by decide⟩, ann84, (L84 x), .raw, (loopsN1 (i0 := 0) (by kernel_rfl) ?_), ?_⟩
 ·clear h
  intro m_ s_ K_ h
  obtain ⟨hc0, i0, v0, rfl, hl0, rfl, hv0, h⟩ := (show LP84_0 x m_ s_ K_ from h)
  rw [lvc84_0 x i0 v0 _ K_]
  exact (loopI_step h (fun ht0 h => ⟨hl0, ⟨ht0, ⟨(sm_nth h_x i0), (fun r_5_6 e_r_5_6 => have h := ok_let h r_5_6 e_r_5_6; ⟨hl0, ⟨(ok_guard h).1, have h := (ok_guard h).2; (loopI_next (fun m hm => (show LP84_0 x m _ _ from ⟨hc0, hm⟩)) (v0.set i0.toNat r_5_6) rfl hl0 low0 ht0 (sm_len h_x) trivial (ok_ret h :))⟩⟩)⟩⟩⟩) (fun h => (h trivial)))
 ·rw [vc84 x K]
  exact ⟨rfl, ⟨(Int.natCast_nonneg _), ⟨(sm_limI h_x rfl), (loopI_start (fun m hm => ⟨trivial, hm⟩) Z0 (List.replicate (x.length : Int).toNat []) rfl (Int.natCast_nonneg 0) trivial (ok_then h (fun v0 h hv0 => (ok_ret h :)) (fun _ h => h.elim)))⟩⟩⟩
def cons39 : Cons := [(83, c83), (84, c84)]
@[reducible] def C39 : Ctx := ⟨tab, fun t => memN t cmps, cons39, 13, [], 200000, true⟩
theorem consOk39 : ConsOk P C39 := by
 refine consOk_cons (enter_ok (fn := f83) func83 (by kernel_rfl) rfl) con83_ok ?_
 refine consOk_cons (enter_ok (fn := f84) func84 (by kernel_rfl) rfl) con84_ok ?_
 exact consOk_nil
def T39 : Inl := inlT C39 (fun _ => []) (bodyOf f39) f39.results.toList
theorem inlOk39 : InlOk P 39 T39 := inl_ok (fn := f39) (code := bodyOf f39) (tab_ok tab_check cmp_check) consOk39 mixed func39 rfl rfl (by kernel_rfl)
def c11 : Con := ⟨[.dat TTb], fun args hp K => args1 (fun a0 => withD TTb a0 fun x => (Sm TTb x) ∧ (∀ r : LTb, r = (x) → K (.own 0 none) [(0, .arr true TTable r)])) args hp, .plain⟩
def cons11 : Cons := []
@[reducible] def C11 : Ctx := ⟨tab, fun t => memN t cmps, cons11, 23, [(39, T39)], 0, true⟩
theorem consOk11 : ConsOk P C11 := by
 refine consOk_inl (enter_ok (fn := f39) func39 (by kernel_rfl) rfl) inlOk39 ?_
 exact consOk_nil
def ann11 : Nat → List Dir
 | 0 => [.keep [0]]
 | 1 => [.keep [0, 3]]
 | 2 => [.keep [0, 3, 4]]
 | 3 => [.keep [0, 3, 4, 11]]
 | 4 => [.keep [0, 3, 4]]
 | 5 => [.keep [0, 3, 4]]
 | 6 => [.keep [2]]
 | 100000 => [.keep [3]]
 | _ => []
@[reducible] def LP11_0 (x : LTb) (m : Nat) (st_ : St) (K : KX) : Prop := (True) ∧ LoopI (fun (i0 : Int) (v0 : LTb) => (⟨[(0, .data TTb x), (3, .own 7 none), (4, dI i0)], [(7, .arr true TTable v0)]⟩ : St)) Z0 (x.length : Int) (F.laws_toTableS_l0 x) (fun v0 : LTb => True) (outD (fun v0 : LTb => True → K (.exit 0) (⟨[(3, .own 7 none)], [(7, .arr true TTable v0)]⟩ : St)) (fun _ => False)) m st_
def L11 (x : LTb) : Loops := fun id m st_ K => match id with
 | 0 => LP11_0 x m st_ K
 | _ => False
theorem vc11 (x : LTb) (K : KA) : awp C11 (L11 x) ann11 (bodyOf f11) ⟨argEnv 0 [.data TTb x], []⟩ (outK tab true f11.results.toList (hasBox []) (resK .raw K)) =
 (((x.length : Int) = (x.length : Int)) ∧ (0 ≤ (x.length : Int)) ∧ ((x.length : Int) * 48 ≤ (lim : Int)) ∧ (∃ m_, (True) ∧ LoopI (fun (i0 : Int) (v0 : LTb) => (⟨[(0, .data TTb x), (3, .own 7 none), (4, dI i0)], [(7, .arr true TTable v0)]⟩ : St)) Z0 (x.length : Int) (F.laws_toTableS_l0 x) (fun v0 : LTb => True) (outD (fun v0 : LTb => True → K (.own 0 none) [(0, .arr true TTable v0)]) (fun _ => False)) m_ (⟨[(0, .data TTb x), (3, .own 7 none), (4, dI Z0)], [(7, .arr true TTable (List.replicate (x.length : Int).toNat ([], ([], ()))))]⟩ : St))) := by kernel_rfl
theorem lvc11_0 (x : LTb)  (i0 : Int) (v0 : LTb) (m : Nat) (K : KX) : awp C11 (L11 x) ann11 (loopAt (bodyOf f11) 0) (⟨[(0, .data TTb x), (3, .own 7 none), (4, dI i0)], [(7, .arr true TTable v0)]⟩ : St) (thenW (fun s' => ∃ m', m' < m ∧ (L11 x) 0 m' s' K) (exitN 0 (ann11 (behind 0)) K)) =
 (cond (decide (i0 < (x.length : Int))) ((0 ≤ i0) ∧ (i0 < (x.length : Int)) ∧ (Sm TCS ((nT x i0).1)) ∧ (∀ r_1002_2 : LC, r_1002_2 = (((nT x i0).1)) → (Sm (Ty.sl TVS) (((nT x i0).2).1)) ∧ (∀ r_1003_2 : (List LV), r_1003_2 = ((((nT x i0).2).1)) → (0 ≤ i0) ∧ (i0 < (v0.length : Int)) ∧ (∃ m_, m_ < m ∧ (L11 x) 0 m_ (⟨[(0, .data TTb x), (3, .own 7 none), (4, dI (wrap64 (i0 + Z1)))], [(7, .arr true TTable (v0.set i0.toNat (r_1002_2, (r_1003_2, ()))))]⟩ : St) K)))) (K (.exit 0) (⟨[(3, .own 7 none)], [(7, .arr true TTable v0)]⟩ : St))) := by kernel_rfl
theorem con11_ok : ConOk P 11 c11 := by
 refine con_okR (fn := f11) (code := bodyOf f11) (tab_ok tab_check cmp_check) consOk11 mixed func11 rfl rfl fun args hp K h0 => ?_
 obtain ⟨a0, rfl, rfl, h1⟩ := args1_elim h0
 obtain ⟨x, rfl, h2⟩ := withD_elim h1
 obtain ⟨h_x, hK⟩ := h2
 have h : ok (F.laws_toTableS x) (fun r => K (.own 0 none) [(0, .arr true TTable r)]) := ok_of_eq (F.laws_toTableS_eq x h_x) (hK _ rfl)
 refine ⟨⟨show (1 : Nat) ≤ 23 by decide, show (1 : Nat) ≤ 1000000 by decide⟩, ann11, (L11 x), .raw, (loopsN1 (i0 := 0) (by kernel_rfl) ?_), ?_⟩
 ·clear h
  intro m_ s_ K_ h
  obtain ⟨hc0, i0, v0, rfl, hl0, rfl, hv0, h⟩ := (show LP11_0 x m_ s_ K_ from h)
  rw [lvc11_0 x i0 v0 _ K_]
  exact (loopI_step h (fun ht0 h => ⟨hl0, ⟨ht0, ⟨(sm_nth h_x i0).1, (fun r_1002_2 e_r_1002_2 => have h := ok_let h r_1002_2 e_r_1002_2; ⟨(sm_nth h_x i0).2.1, (fun r_1003_2 e_r_1003_2 => have h := ok_let h r_1003_2 e_r_1003_2; ⟨hl0, ⟨(ok_guard h).1, have h := (ok_guard h).2; (loopI_next (fun m hm => (show LP11_0 x m _ _ from ⟨hc0, hm⟩)) (v0.set i0.toNat (r_1002_2, (r_1003_2, ()))) rfl hl0 low0 ht0 (sm_len h_x) trivial (ok_ret h :))⟩⟩)⟩)⟩⟩⟩) (fun h => (h trivial)))
 ·rw [vc11 x K]
  exact ⟨rfl, ⟨(Int.natCast_nonneg _), ⟨(sm_limI h_x rfl), (loopI_start (fun m hm => ⟨trivial, hm⟩) Z0 (List.replicate (x.length : Int).toNat ([], ([], ()))) rfl (Int.natCast_nonneg 0) trivial (ok_then h (fun v0 h hv0 => (ok_ret h :)) (fun _ h => h.elim)))⟩⟩⟩
def c122 : Con := ⟨[.dat TPart], fun args hp K => args1 (fun a0 => withD TPart a0 fun x => (Sm TPart x) ∧ (∀ r : (TPart).D, r = (x) → K (.data TPart r) [])) args hp, .plain⟩
def cons122 : Cons := [(154, c154)]
@[reducible] def C122 : Ctx := ⟨tab, fun t => memN t cmps, cons122, 15, [], 0, false⟩
theorem consOk122 : ConsOk P C122 := by
 refine consOk_cons (enter_ok (fn := f154) func154 (by kernel_rfl) rfl) con154_ok ?_
 exact consOk_nil
def ann122 : Nat → List Dir
 | 0 => [.fixRow 1 TPart, .keep [1, 2]]
 | 1 => [.keep [1, 2, 3]]
 | 2 => [.keep [1, 2, 3]]
 | 3 => [.keep [1, 2, 3]]
 | 4 => [.keep [2, 3]]
 | 5 => [.keep [2]]
 | _ => []
def L122 (x : (TPart).D) : Loops := fun id m st_ K => match id with
 | _ => False
theorem vc122 (x : (TPart).D) (K : KA) : awp C122 (L122 x) ann122 (bodyOf f122) ⟨argEnv 0 [.data TPart x], []⟩ (outK tab false f122.results.toList (hasBox []) (resK (.dat TPart) K)) =
 ((Sm TValue x.2.2.1) ∧ (∀ r_4_2 : (TValue).D, r_4_2 = (x.2.2.1) → K (.data TPart (x.1, (x.2.1, (r_4_2, ())))) [])) := by kernel_rfl
theorem con122_ok : ConOk P 122 c122 := by
 refine con_okR (fn := f122) (code := bodyOf f122) (tab_ok tab_check cmp_check) consOk122 mixed func122 rfl rfl fun args hp K h0 => ?_
 obtain ⟨a0, rfl, rfl, h1⟩ := args1_elim h0
 obtain ⟨x, rfl, h2⟩ := withD_elim h1
 obtain ⟨h_x, hK⟩ := h2
 have h : ok (F.laws_toPart x) (fun r => K (.data TPart r) []) := ok_of_eq (F.laws_toPart_eq x h_x) (hK _ rfl)
 refine ⟨⟨show (1 : Nat) ≤ 15 by decide, show (1 : Nat) ≤ 1000000 by decide⟩, ann122, (L122 x), (.dat TPart), (no_loops (by kernel_rfl)), ?_⟩
 ·rw [vc122 x K]
  exact ⟨h_x.2.2.1, (fun r_4_2 e_r_4_2 => have h := ok_let h r_4_2 e_r_4_2; (ok_ret h :))⟩
def c85 : Con := ⟨[.dat TPS], fun args hp K => args1 (fun a0 => withD TPS a0 fun x => (Sm TPS x) ∧ (∀ r : LPt, r = (x) → K (.own 0 none) [(0, .arr false TPart r)])) args hp, .plain⟩
def cons85 : Cons := [(122, c122)]
@[reducible] def C85 : Ctx := ⟨tab, fun t => memN t cmps, cons85, 23, [], 0, false⟩
theorem consOk85 : ConsOk P C85 := by
 refine consOk_cons (enter_ok (fn := f122) func122 (by kernel_rfl) rfl) con122_ok ?_
 exact consOk_nil
def ann85 : Nat → List Dir
 | 0 => [.keep [0]]
 | 1 => [.keep [0, 3]]
 | 2 => [.keep [0, 3, 4]]
 | 3 => [.keep [0, 3, 4, 11]]
 | 4 => [.keep [0, 3, 4]]
 | 5 => [.keep [0, 3, 4]]
 | 6 => [.keep [2]]
 | 100000 => [.keep [3]]
 | _ => []
@[reducible] def LP85_0 (x : LPt) (m : Nat) (st_ : St) (K : KX) : Prop := (True) ∧ LoopI (fun (i0 : Int) (v0 : LPt) => (⟨[(0, .data TPS x), (3, .own 7 none), (4, dI i0)], [(7, .arr false TPart v0)]⟩ : St)) Z0 (x.length : Int) (F.laws_toPartS_l0 x) (fun v0 : LPt => True) (outD (fun v0 : LPt => True → K (.exit 0) (⟨[(3, .own 7 none)], [(7, .arr false TPart v0)]⟩ : St)) (fun _ => False)) m st_
def L85 (x : LPt) : Loops := fun id m st_ K => match id with
 | 0 => LP85_0 x m st_ K
 | _ => False
theorem vc85 (x : LPt) (K : KA) : awp C85 (L85 x) ann85 (bodyOf f85) ⟨argEnv 0 [.data TPS x], []⟩ (outK tab false f85.results.toList (hasBox []) (resK .raw K)) =
 (((x.length : Int) = (x.length : Int)) ∧ (0 ≤ (x.length : Int)) ∧ ((x.length : Int) * 48 ≤ (lim : Int)) ∧ (∃ m_, (True) ∧ LoopI (fun (i0 : Int) (v0 : LPt) => (⟨[(0, .data TPS x), (3, .own 7 none), (4, dI i0)], [(7, .arr false TPart v0)]⟩ : St)) Z0 (x.length : Int) (F.laws_toPartS_l0 x) (fun v0 : LPt => True) (outD (fun v0 : LPt => True → K (.own 0 none) [(0, .arr false TPart v0)]) (fun _ => False)) m_ (⟨[(0, .data TPS x), (3, .own 7 none), (4, dI Z0)], [(7, .arr false TPart (List.replicate (x.length : Int).toNat (Z0, (Z0, ((Z0, (Z0, ((⟨#[]⟩ : ByteArray), ()))), ())))))]⟩ : St))) := by kernel_rfl
theorem lvc85_0 (x : LPt)  (i0 : Int) (v0 : LPt) (m : Nat) (K : KX) : awp C85 (L85 x) ann85 (loopAt (bodyOf f85) 0) (⟨[(0, .data TPS x), (3, .own 7 none), (4, dI i0)], [(7, .arr false TPart v0)]⟩ : St) (thenW (fun s' => ∃ m', m' < m ∧ (L85 x) 0 m' s' K) (exitN 0 (ann85 (behind 0)) K)) =
 (cond (decide (i0 < (x.length : Int))) ((0 ≤ i0) ∧ (i0 < (x.length : Int)) ∧ (Sm TPart (nP x i0)) ∧ (∀ r_5_6 : (TPart).D, r_5_6 = ((nP x i0)) → (0 ≤ i0) ∧ (i0 < (v0.length : Int)) ∧ (∃ m_, m_ < m ∧ (L85 x) 0 m_ (⟨[(0, .data TPS x), (3, .own 7 none), (4, dI (wrap64 (i0 + Z1)))], [(7, .arr false TPart (v0.set i0.toNat r_5_6))]⟩ : St) K))) (K (.exit 0) (⟨[(3, .own 7 none)], [(7, .arr false TPart v0)]⟩ : St))) := by kernel_rfl
theorem con85_ok : ConOk P 85 c85 := by
 refine con_okR (fn := f85) (code := bodyOf f85) (tab_ok tab_check cmp_check) consOk85 mixed func85 rfl rfl fun args hp K h0 => ?_
 obtain ⟨a0, rfl, rfl, h1⟩ := args1_elim h0
 obtain ⟨x, rfl, h2⟩ := withD_elim h1
 obtain ⟨h_x, hK⟩ := h2
 have h : ok (F.laws_toPartS x) (fun r => K (.own 0 none) [(0, .arr false TPart r)]) := ok_of_eq (F.laws_toPartS_eq x h_x) (hK _ rfl)
 refine ⟨⟨show (1 : Nat) ≤ 23 by decide, show (1 : Nat) ≤ 1000000 by decide⟩, ann85, (L85 x), .raw, (loopsN1 (i0 := 0) (by kernel_rfl) ?_), ?_⟩
 ·clear h
  intro m_ s_ K_ h
  obtain ⟨hc0, i0, v0, rfl, hl0, rfl, hv0, h⟩ := (show LP85_0 x m_ s_ K_ from h)
  rw [lvc85_0 x i0 v0 _ K_]
  exact (loopI_step h (fun ht0 h => ⟨hl0, ⟨ht0, ⟨(sm_nth h_x i0), (fun r_5_6 e_r_5_6 => have h := ok_let h r_5_6 e_r_5_6; ⟨hl0, ⟨(ok_guard h).1, have h := (ok_guard h).2; (loopI_next (fun m hm => (show LP85_0 x m _ _ from ⟨hc0, hm⟩)) (v0.set i0.toNat r_5_6) rfl hl0 low0 ht0 (sm_len h_x) trivial (ok_ret h :))⟩⟩)⟩⟩⟩) (fun h => (h trivial)))
 ·rw [vc85 x K]
  exact ⟨rfl, ⟨(Int.natCast_nonneg _), ⟨(sm_limI h_x rfl), (loopI_start (fun m hm => ⟨trivial, hm⟩) Z0 (List.replicate (x.length : Int).toNat (Z0, (Z0, ((Z0, (Z0, ((⟨#[]⟩ : ByteArray), ()))), ())))) rfl (Int.natCast_nonneg 0) trivial (ok_then h (fun v0 h hv0 => (ok_ret h :)) (fun _ h => h.elim)))⟩⟩⟩
def c86 : Con := ⟨[.dat (Ty.sl TInt)], fun args hp K => args1 (fun a0 => withD (Ty.sl TInt) a0 fun x => (Sm (Ty.sl TInt) x) ∧ (∀ r : (List Int), r = (x) → K (.own 0 none) [(0, .arr false TInt r)])) args hp, .plain⟩
def cons86 : Cons := []
@[reducible] def C86 : Ctx := ⟨tab, fun t => memN t cmps, cons86, 22, [], 0, false⟩
theorem consOk86 : ConsOk P C86 := by
 exact consOk_nil
def ann86 : Nat → List Dir
 | 0 => [.keep [0]]
 | 1 => [.keep [0, 3]]
 | 2 => [.keep [0, 3, 4]]
 | 3 => [.keep [0, 3, 4, 11]]
 | 4 => [.keep [0, 3, 4]]
 | 5 => [.keep [0, 3, 4]]
 | 6 => [.keep [2]]
 | 100000 => [.keep [3]]
 | _ => []
@[reducible] def LP86_0 (x : (List Int)) (m : Nat) (st_ : St) (K : KX) : Prop := (True) ∧ LoopI (fun (i0 : Int) (v0 : (List Int)) => (⟨[(0, .data (Ty.sl TInt) x), (3, .own 7 none), (4, dI i0)], [(7, .arr false TInt v0)]⟩ : St)) Z0 (x.length : Int) (F.laws_toIntS_l0 x) (fun v0 : (List Int) => True) (outD (fun v0 : (List Int) => True → K (.exit 0) (⟨[(3, .own 7 none)], [(7, .arr false TInt v0)]⟩ : St)) (fun _ => False)) m st_
def L86 (x : (List Int)) : Loops := fun id m st_ K => match id with
 | 0 => LP86_0 x m st_ K
 | _ => False
theorem vc86 (x : (List Int)) (K : KA) : awp C86 (L86 x) ann86 (bodyOf f86) ⟨argEnv 0 [.data (Ty.sl TInt) x], []⟩ (outK tab false f86.results.toList (hasBox []) (resK .raw K)) =
 (((x.length : Int) = (x.length : Int)) ∧ (0 ≤ (x.length : Int)) ∧ ((x.length : Int) * 8 ≤ (lim : Int)) ∧ (∃ m_, (True) ∧ LoopI (fun (i0 : Int) (v0 : (List Int)) => (⟨[(0, .data (Ty.sl TInt) x), (3, .own 7 none), (4, dI i0)], [(7, .arr false TInt v0)]⟩ : St)) Z0 (x.length : Int) (F.laws_toIntS_l0 x) (fun v0 : (List Int) => True) (outD (fun v0 : (List Int) => True → K (.own 0 none) [(0, .arr false TInt v0)]) (fun _ => False)) m_ (⟨[(0, .data (Ty.sl TInt) x), (3, .own 7 none), (4, dI Z0)], [(7, .arr false TInt (List.replicate (x.length : Int).toNat Z0))]⟩ : St))) := by kernel_rfl
theorem lvc86_0 (x : (List Int))  (i0 : Int) (v0 : (List Int)) (m : Nat) (K : KX) : awp C86 (L86 x) ann86 (loopAt (bodyOf f86) 0) (⟨[(0, .data (Ty.sl TInt) x), (3, .own 7 none), (4, dI i0)], [(7, .arr false TInt v0)]⟩ : St) (thenW (fun s' => ∃ m', m' < m ∧ (L86 x) 0 m' s' K) (exitN 0 (ann86 (behind 0)) K)) =
 (cond (decide (i0 < (x.length : Int))) ((0 ≤ i0) ∧ (i0 < (x.length : Int)) ∧ (0 ≤ i0) ∧ (i0 < (v0.length : Int)) ∧ (∃ m_, m_ < m ∧ (L86 x) 0 m_ (⟨[(0, .data (Ty.sl TInt) x), (3, .own 7 none), (4, dI (wrap64 (i0 + Z1)))], [(7, .arr false TInt (v0.set i0.toNat (nI x i0)))]⟩ : St) K)) (K (.exit 0) (⟨[(3, .own 7 none)], [(7, .arr false TInt v0)]⟩ : St))) := by kernel_rfl
theorem con86_ok : ConOk P 86 c86 := by
 refine con_okR (fn := f86) (code := bodyOf f86) (tab_ok tab_check cmp_check) consOk86 mixed func86 rfl rfl fun args hp K h0 => ?_
 obtain ⟨a0, rfl, rfl, h1⟩ := args1_elim h0
 obtain ⟨x, rfl, h2⟩ := withD_elim h1
 obtain ⟨h_x, hK⟩ := h2
 have h : ok (F.laws_toIntS x) (fun r => K (.own 0 none) [(0, .arr false TInt r)]) := ok_of_eq (F.laws_toIntS_eq x h_x) (hK _ rfl)
 refine ⟨⟨show (1 : Nat) ≤ 22 by decide, show (1 : Nat) ≤ 1000000 by decide⟩, ann86, (L86 x), .raw, (loopsN1 (i0 := 0) (by kernel_rfl) ?_), ?_⟩
 ·clear h
  intro m_ s_ K_ h
  obtain ⟨hc0, i0, v0, rfl, hl0, rfl, hv0, h⟩ := (show LP86_0 x m_ s_ K_ from h)
  rw [lvc86_0 x i0 v0 _ K_]
  exact (loopI_step h (fun ht0 h => ⟨hl0, ⟨ht0, ⟨hl0, ⟨(ok_guard h).1, have h := (ok_guard h).2; (loopI_next (fun m hm => (show LP86_0 x m _ _ from ⟨hc0, hm⟩)) (v0.set i0.toNat (nI x i0)) rfl hl0 low0 ht0 (sm_len h_x) trivial (ok_ret h :))⟩⟩⟩⟩) (fun h => (h trivial)))
 ·rw [vc86 x K]
  exact ⟨rfl, ⟨(Int.natCast_nonneg _), ⟨(sm_limI h_x rfl), (loopI_start (fun m hm => ⟨trivial, hm⟩) Z0 (List.replicate (x.length : Int).toNat Z0) rfl (Int.natCast_nonneg 0) trivial (ok_then h (fun v0 h hv0 => (ok_ret h :)) (fun _ h => h.elim)))⟩⟩⟩
def cons40 : Cons := [(85, c85), (86, c86)]
@[reducible] def C40 : Ctx := ⟨tab, fun t => memN t cmps, cons40, 25, [], 200000, true⟩
theorem consOk40 : ConsOk P C40 := by
 refine consOk_cons (enter_ok (fn := f85) func85 (by kernel_rfl) rfl) con85_ok ?_
 refine consOk_cons (enter_ok (fn := f86) func86 (by kernel_rfl) rfl) con86_ok ?_
 exact consOk_nil
def T40 : Inl := inlT C40 (fun _ => []) (bodyOf f40) f40.results.toList
theorem inlOk40 : InlOk P 40 T40 := inl_ok (fn := f40) (code := bodyOf f40) (tab_ok tab_check cmp_check) consOk40 mixed func40 rfl rfl (by kernel_rfl)
def c12 : Con := ⟨[.dat TSS], fun args hp K => args1 (fun a0 => withD TSS a0 fun x => (Sm TSS x) ∧ (∀ r : LS, r = (x) → K (.own 0 none) [(0, .arr true TStep r)])) args hp, .plain⟩
def cons12 : Cons := []
@[reducible] def C12 : Ctx := ⟨tab, fun t => memN t cmps, cons12, 23, [(40, T40)], 0, true⟩
theorem consOk12 : ConsOk P C12 := by
 refine consOk_inl (enter_ok (fn := f40) func40 (by kernel_rfl) rfl) inlOk40 ?_
 exact consOk_nil
def ann12 : Nat → List Dir
 | 0 => [.keep [0]]
 | 1 => [.keep [0, 3]]
 | 2 => [.keep [0, 3, 4]]
 | 3 => [.keep [0, 3, 4, 11]]
 | 4 => [.keep [0, 3, 4]]
 | 5 => [.keep [0, 3, 4]]
 | 6 => [.keep [2]]
 | 100000 => [.keep [3]]
 | _ => []
@[reducible] def LP12_0 (x : LS) (m : Nat) (st_ : St) (K : KX) : Prop := (True) ∧ LoopI (fun (i0 : Int) (v0 : LS) => (⟨[(0, .data TSS x), (3, .own 7 none), (4, dI i0)], [(7, .arr true TStep v0)]⟩ : St)) Z0 (x.length : Int) (F.laws_toStepS_l0 x) (fun v0 : LS => True) (outD (fun v0 : LS => True → K (.exit 0) (⟨[(3, .own 7 none)], [(7, .arr true TStep v0)]⟩ : St)) (fun _ => False)) m st_
def L12 (x : LS) : Loops := fun id m st_ K => match id with
 | 0 => LP12_0 x m st_ K
 | _ => False
theorem vc12 (x : LS) (K : KA) : awp C12 (L12 x) ann12 (bodyOf f12) ⟨argEnv 0 [.data TSS x], []⟩ (outK tab true f12.results.toList (hasBox []) (resK .raw K)) =
 (((x.length : Int) = (x.length : Int)) ∧ (0 ≤ (x.length : Int)) ∧ ((x.length : Int) * 80 ≤ (lim : Int)) ∧ (∃ m_, (True) ∧ LoopI (fun (i0 : Int) (v0 : LS) => (⟨[(0, .data TSS x), (3, .own 7 none), (4, dI i0)], [(7, .arr true TStep v0)]⟩ : St)) Z0 (x.length : Int) (F.laws_toStepS_l0 x) (fun v0 : LS => True) (outD (fun v0 : LS => True → K (.own 0 none) [(0, .arr true TStep v0)]) (fun _ => False)) m_ (⟨[(0, .data TSS x), (3, .own 7 none), (4, dI Z0)], [(7, .arr true TStep (List.replicate (x.length : Int).toNat (Z0, (Z0, (Z0, (Z0, ([], ([], ()))))))))]⟩ : St))) := by kernel_rfl
theorem lvc12_0 (x : LS)  (i0 : Int) (v0 : LS) (m : Nat) (K : KX) : awp C12 (L12 x) ann12 (loopAt (bodyOf f12) 0) (⟨[(0, .data TSS x), (3, .own 7 none), (4, dI i0)], [(7, .arr true TStep v0)]⟩ : St) (thenW (fun s' => ∃ m', m' < m ∧ (L12 x) 0 m' s' K) (exitN 0 (ann12 (behind 0)) K)) =
 (cond (decide (i0 < (x.length : Int))) ((0 ≤ i0) ∧ (i0 < (x.length : Int)) ∧ (Sm TPS ((((((nS x i0).2).2).2).2).1)) ∧ (∀ r_1006_2 : LPt, r_1006_2 = (((((((nS x i0).2).2).2).2).1)) → (Sm (Ty.sl TInt) (((((((nS x i0).2).2).2).2).2).1)) ∧ (∀ r_1007_2 : (List Int), r_1007_2 = ((((((((nS x i0).2).2).2).2).2).1)) → (0 ≤ i0) ∧ (i0 < (v0.length : Int)) ∧ (let y_5_8 : LS := (v0.set i0.toNat ((nS x i0).1, (((nS x i0).2).1, ((((nS x i0).2).2).1, (((((nS x i0).2).2).2).1, (r_1006_2, (r_1007_2, ()))))))); (∃ m_, m_ < m ∧ (L12 x) 0 m_ (⟨[(0, .data TSS x), (3, .own 7 none), (4, dI (wrap64 (i0 + Z1)))], [(7, .arr true TStep y_5_8)]⟩ : St) K))))) (K (.exit 0) (⟨[(3, .own 7 none)], [(7, .arr true TStep v0)]⟩ : St))) := by kernel_rfl
theorem con12_ok : ConOk P 12 c12 := by
 refine con_okR (fn := f12) (code := bodyOf f12) (tab_ok tab_check cmp_check) consOk12 mixed func12 rfl rfl fun args hp K h0 => ?_
 obtain ⟨a0, rfl, rfl, h1⟩ := args1_elim h0
 obtain ⟨x, rfl, h2⟩ := withD_elim h1
 obtain ⟨h_x, hK⟩ := h2
 have h : ok (F.laws_toStepS x) (fun r => K (.own 0 none) [(0, .arr true TStep r)]) := ok_of_eq (F.laws_toStepS_eq x h_x) (hK _ rfl)
 refine ⟨⟨show (1 : Nat) ≤ 23 by decide, show (1 : Nat) ≤ 1000000 by decide⟩, ann12, (L12 x), .raw, (loopsN1 (i0 := 0) (by kernel_rfl) ?_), ?_⟩
 ·clear h
  intro m_ s_ K_ h
  obtain ⟨hc0, i0, v0, rfl, hl0, rfl, hv0, h⟩ := (show LP12_0 x m_ s_ K_ from h)
  rw [lvc12_0 x i0 v0 _ K_]
  exact (loopI_step h (fun ht0 h => ⟨hl0, ⟨ht0, ⟨(sm_nth h_x i0).2.2.2.2.1, (fun r_1006_2 e_r_1006_2 => have h := ok_let h r_1006_2 e_r_1006_2; ⟨(sm_nth h_x i0).2.2.2.2.2.1, (fun r_1007_2 e_r_1007_2 => have h := ok_let h r_1007_2 e_r_1007_2; ⟨hl0, ⟨(ok_guard h).1, have h := (ok_guard h).2; (let y_5_8 : LS := (v0.set i0.toNat ((nS x i0).1, (((nS x i0).2).1, ((((nS x i0).2).2).1, (((((nS x i0).2).2).2).1, (r_1006_2, (r_1007_2, ()))))))); have h := ok_let h y_5_8 rfl; (loopI_next (fun m hm => (show LP12_0 x m _ _ from ⟨hc0, hm⟩)) y_5_8 rfl hl0 low0 ht0 (sm_len h_x) trivial (ok_ret h :)))⟩⟩)⟩)⟩⟩⟩) (fun h => (h trivial)))
 ·rw [vc12 x K]
  exact ⟨rfl, ⟨(Int.natCast_nonneg _), ⟨(sm_limI h_x rfl), (loopI_start (fun m hm => ⟨trivial, hm⟩) Z0 (List.replicate (x.length : Int).toNat (Z0, (Z0, (Z0, (Z0, ([], ([], ()))))))) rfl (Int.natCast_nonneg 0) trivial (ok_then h (fun v0 h hv0 => (ok_ret h :)) (fun _ h => h.elim)))⟩⟩⟩
def c116 : Con := ⟨[.dat TValue, .dat TValue], fun args hp K => args2 (fun a0 a1 => withD TValue a0 fun x => withD TValue a1 fun y => (Sm TValue x) ∧ (Sm TValue y) ∧ (x = y) ∧ K (dB (true)) []) args hp, .plain⟩
def cons116 : Cons := []
@[reducible] def C116 : Ctx := ⟨tab, fun t => memN t cmps, cons116, 20, [], 0, false⟩
theorem consOk116 : ConsOk P C116 := by
 exact consOk_nil
def ann116 : Nat → List Dir
 | 0 => [.fixRow 2 TValue, .fixRow 3 TValue, .keep [2, 3]]
 | 1 => [.keep [2, 3, 9]]
 | 2 => [.keep [4]]
 | 3 => [.keep [2, 3, 14]]
 | 4 => [.keep [4]]
 | 5 => [.keep [19]]
 | 6 => [.keep [4]]
 | 7 => [.keep [4]]
 | _ => []
def L116 (x : (TValue).D) (y : (TValue).D) : Loops := fun id m st_ K => match id with
 | _ => False
theorem vc116 (x : (TValue).D) (y : (TValue).D) (K : KA) : awp C116 (L116 x y) ann116 (bodyOf f116) ⟨argEnv 0 [.data TValue x, .data TValue y], []⟩ (outK tab false f116.results.toList (hasBox []) (resK (.dat Ty.bool) K)) =
 (cond (!decide (x.1 = y.1)) (K (dB false) []) (cond (!decide (x.2.1 = y.2.1)) (K (dB false) []) (cond (!decide (x.2.2.1 = y.2.2.1)) (K (dB false) []) (K (dB true) [])))) := by kernel_rfl
theorem con116_ok : ConOk P 116 c116 := by
 refine con_okR (fn := f116) (code := bodyOf f116) (tab_ok tab_check cmp_check) consOk116 mixed func116 rfl rfl fun args hp K h0 => ?_
 obtain ⟨a0, a1, rfl, rfl, h1⟩ := args2_elim h0
 obtain ⟨x, rfl, h2⟩ := withD_elim h1
 obtain ⟨y, rfl, h3⟩ := withD_elim h2
 obtain ⟨h_x, h_y, p0, hK⟩ := h3
 have h : ok (F.laws_eqValue x y) (fun r => K (dB r) []) := ok_of_eq (F.laws_eqValue_eq x y h_x h_y p0) hK
 refine ⟨⟨show (2 : Nat) ≤ 20 by decide, show (2 : Nat) ≤ 1000000 by decide⟩, ann116, (L116 x y), (.dat Ty.bool), (no_loops (by kernel_rfl)), ?_⟩
 ·rw [vc116 x y K]
  exact (ok_cond h (fun b_1 h => (ok_ret h :)) (fun b_1 h => (ok_cond h (fun b_2 h => (ok_ret h :)) (fun b_2 h => (ok_cond h (fun b_3 h => (ok_ret h :)) (fun b_3 h => (ok_ret h :)))))))
def c124 : Con := ⟨[.dat TPart, .dat TPart], fun args hp K => args2 (fun a0 a1 => withD TPart a0 fun x => withD TPart a1 fun y => (Sm TPart x) ∧ (Sm TPart y) ∧ (x = y) ∧ K (dB (true)) []) args hp, .plain⟩
def cons124 : Cons := [(116, c116)]
@[reducible] def C124 : Ctx := ⟨tab, fun t => memN t cmps, cons124, 21, [], 0, false⟩
theorem consOk124 : ConsOk P C124 := by
 refine consOk_cons (enter_ok (fn := f116) func116 (by kernel_rfl) rfl) con116_ok ?_
 exact consOk_nil
def ann124 : Nat → List Dir
 | 0 => [.fixRow 2 TPart, .fixRow 3 TPart, .keep [2, 3]]
 | 1 => [.keep [2, 3, 9]]
 | 2 => [.keep [4]]
 | 3 => [.keep [2, 3, 14]]
 | 4 => [.keep [4]]
 | 5 => [.keep [20]]
 | 6 => [.keep [4]]
 | 7 => [.keep [4]]
 | _ => []
def L124 (x : (TPart).D) (y : (TPart).D) : Loops := fun id m st_ K => match id with
 | _ => False
theorem vc124 (x : (TPart).D) (y : (TPart).D) (K : KA) : awp C124 (L124 x y) ann124 (bodyOf f124) ⟨argEnv 0 [.data TPart x, .data TPart y], []⟩ (outK tab false f124.results.toList (hasBox []) (resK (.dat Ty.bool) K)) =
 (cond (!decide (x.1 = y.1)) (K (dB false) []) (cond (!decide (x.2.1 = y.2.1)) (K (dB false) []) ((Sm TValue x.2.2.1) ∧ (Sm TValue y.2.2.1) ∧ (x.2.2.1 = y.2.2.1) ∧ cond (!(true)) (K (dB false) []) (K (dB true) [])))) := by kernel_rfl
theorem con124_ok : ConOk P 124 c124 := by
 refine con_okR (fn := f124) (code := bodyOf f124) (tab_ok tab_check cmp_check) consOk124 mixed func124 rfl rfl fun args hp K h0 => ?_
 obtain ⟨a0, a1, rfl, rfl, h1⟩ := args2_elim h0
 obtain ⟨x, rfl, h2⟩ := withD_elim h1
 obtain ⟨y, rfl, h3⟩ := withD_elim h2
 obtain ⟨h_x, h_y, p0, hK⟩ := h3
 have h : ok (F.laws_eqPart x y) (fun r => K (dB r) []) := ok_of_eq (F.laws_eqPart_eq x y h_x h_y p0) hK
 refine ⟨⟨show (2 : Nat) ≤ 21 by decide, show (2 : Nat) ≤ 1000000 by decide⟩, ann124, (L124 x y), (.dat Ty.bool), (no_loops (by kernel_rfl)), ?_⟩
 ·rw [vc124 x y K]
  exact (ok_cond h (fun b_1 h => (ok_ret h :)) (fun b_1 h => (ok_cond h (fun b_2 h => (ok_ret h :)) (fun b_2 h => ⟨h_x.2.2.1, ⟨h_y.2.2.1, ⟨(ok_guard h).1, have h := (ok_guard h).2; (ok_cond h (fun b_4 h => (ok_ret h :)) (fun b_4 h => (ok_ret h :)))⟩⟩⟩))))
def c91 : Con := ⟨[.dat TPS, .dat TPS], fun args hp K => args2 (fun a0 a1 => withD TPS a0 fun x => withD TPS a1 fun y => (Sm TPS x) ∧ (Sm TPS y) ∧ (x = y) ∧ K (dB (true)) []) args hp, .bor⟩
def cons91 : Cons := [(124, c124)]
@[reducible] def C91 : Ctx := ⟨tab, fun t => memN t cmps, cons91, 27, [], 0, false⟩
theorem consOk91 : ConsOk P C91 := by
 refine consOk_cons (enter_ok (fn := f124) func124 (by kernel_rfl) rfl) con124_ok ?_
 exact consOk_nil
def ann91 : Nat → List Dir
 | 0 => [.keep [0, 1]]
 | 1 => [.keep [0, 1, 10]]
 | 2 => [.keep [4]]
 | 3 => [.keep [0, 1, 5]]
 | 4 => [.keep [0, 1, 5, 14]]
 | 5 => [.keep [0, 1, 5]]
 | 6 => [.keep [0, 1, 5, 26]]
 | 7 => [.keep [4]]
 | 8 => [.keep [4]]
 | 100000 => [.keep []]
 | _ => []
@[reducible] def LP91_0 (x : LPt) (y : LPt) (m : Nat) (st_ : St) (K : KX) : Prop := (True) ∧ LoopI (fun (i0 : Int) (v0 : Unit) => (⟨[(0, .data TPS x), (1, .data TPS y), (5, dI i0)], []⟩ : St)) Z0 (x.length : Int) (F.laws_eqPartS_l0 x y) (fun v0 : Unit => True) (outD (fun v0 : Unit => True → K (.exit 0) (⟨[], []⟩ : St)) (fun q0 : Unit => K .ret (⟨[(4, dB false)], []⟩ : St))) m st_
def L91 (x : LPt) (y : LPt) : Loops := fun id m st_ K => match id with
 | 0 => LP91_0 x y m st_ K
 | _ => False
theorem vc91 (x : LPt) (y : LPt) (K : KA) : awp C91 (L91 x y) ann91 (bodyOf f91) ⟨argEnv 0 [.data TPS x, .data TPS y], []⟩ (outK tab false f91.results.toList (hasBox []) (resK (.dat Ty.bool) K)) =
 (cond (!decide ((x.length : Int) = (y.length : Int))) (K (dB false) []) ((∃ m_, (True) ∧ LoopI (fun (i0 : Int) (v0 : Unit) => (⟨[(0, .data TPS x), (1, .data TPS y), (5, dI i0)], []⟩ : St)) Z0 (x.length : Int) (F.laws_eqPartS_l0 x y) (fun v0 : Unit => True) (outD (fun v0 : Unit => True → K (dB true) []) (fun q0 : Unit => K (dB false) [])) m_ (⟨[(0, .data TPS x), (1, .data TPS y), (5, dI Z0)], []⟩ : St)))) := by kernel_rfl
theorem lvc91_0 (x : LPt) (y : LPt)  (i0 : Int) (v0 : Unit) (m : Nat) (K : KX) : awp C91 (L91 x y) ann91 (loopAt (bodyOf f91) 0) (⟨[(0, .data TPS x), (1, .data TPS y), (5, dI i0)], []⟩ : St) (thenW (fun s' => ∃ m', m' < m ∧ (L91 x y) 0 m' s' K) (exitN 0 (ann91 (behind 0)) K)) =
 (cond (decide (i0 < (x.length : Int))) ((0 ≤ i0) ∧ (i0 < (x.length : Int)) ∧ (0 ≤ i0) ∧ (i0 < (y.length : Int)) ∧ (Sm TPart (nP x i0)) ∧ (Sm TPart (nP y i0)) ∧ ((nP x i0) = (nP y i0)) ∧ cond (!(true)) (K .ret (⟨[(4, dB false)], []⟩ : St)) ((∃ m_, m_ < m ∧ (L91 x y) 0 m_ (⟨[(0, .data TPS x), (1, .data TPS y), (5, dI (wrap64 (i0 + Z1)))], []⟩ : St) K))) (K (.exit 0) (⟨[], []⟩ : St))) := by kernel_rfl
theorem con91_ok : ConOk P 91 c91 := by
 refine con_okR (fn := f91) (code := bodyOf f91) (tab_ok tab_check cmp_check) consOk91 mixed func91 rfl rfl fun args hp K h0 => ?_
 obtain ⟨a0, a1, rfl, rfl, h1⟩ := args2_elim h0
 obtain ⟨x, rfl, h2⟩ := withD_elim h1
 obtain ⟨y, rfl, h3⟩ := withD_elim h2
 obtain ⟨h_x, h_y, p0, hK⟩ := h3
 have h : ok (F.laws_eqPartS x y) (fun r => K (dB r) []) := ok_of_eq (F.laws_eqPartS_eq x y h_x h_y p0) hK
 refine ⟨⟨show (2 : Nat) ≤ 27 by decide, show (2 : Nat) ≤ 1000000 by decide⟩, ann91, (L91 x y), (.dat Ty.bool), (loopsN1 (i0 := 0) (by kernel_rfl) ?_), ?_⟩
 ·clear h
  intro m_ s_ K_ h
  obtain ⟨hc0, i0, v0, rfl, hl0, rfl, hv0, h⟩ := (show LP91_0 x y m_ s_ K_ from h)
  rw [lvc91_0 x y i0 v0 _ K_]
  exact (loopI_step h (fun ht0 h => ⟨hl0, ⟨ht0, ⟨hl0, ⟨(ok_guard h).1, have h := (ok_guard h).2; ⟨(sm_nth h_x i0), ⟨(sm_nth h_y i0), ⟨(ok_guard h).1, have h := (ok_guard h).2; (ok_cond h (fun b_16 h => (ok_ret h :)) (fun b_16 h => (loopI_next (fun m hm => (show LP91_0 x y m _ _ from ⟨hc0, hm⟩)) () rfl hl0 low0 ht0 (sm_len h_x) trivial (ok_ret h :))))⟩⟩⟩⟩⟩⟩⟩) (fun h => (h trivial)))
 ·rw [vc91 x y K]
  exact (ok_cond h (fun b_1 h => (ok_ret h :)) (fun b_1 h => (loopI_start (fun m hm => ⟨trivial, hm⟩) Z0 () rfl (Int.natCast_nonneg 0) trivial (ok_then h (fun v0 h hv0 => (ok_ret h :)) (fun q0 h => (ok_ret h :))))))
def c92 : Con := ⟨[.dat (Ty.sl TInt), .dat (Ty.sl TInt)], fun args hp K => args2 (fun a0 a1 => withD (Ty.sl TInt) a0 fun x => withD (Ty.sl TInt) a1 fun y => (Sm (Ty.sl TInt) x) ∧ (Sm (Ty.sl TInt) y) ∧ (x = y) ∧ K (dB (true)) []) args hp, .bor⟩
def cons92 : Cons := []
@[reducible] def C92 : Ctx := ⟨tab, fun t => memN t cmps, cons92, 26, [], 0, false⟩
theorem consOk92 : ConsOk P C92 := by
 exact consOk_nil
def ann92 : Nat → List Dir
 | 0 => [.keep [0, 1]]
 | 1 => [.keep [0, 1, 10]]
 | 2 => [.keep [4]]
 | 3 => [.keep [0, 1, 5]]
 | 4 => [.keep [0, 1, 5, 14]]
 | 5 => [.keep [0, 1, 5]]
 | 6 => [.keep [0, 1, 5, 25]]
 | 7 => [.keep [4]]
 | 8 => [.keep [4]]
 | 100000 => [.keep []]
 | _ => []
@[reducible] def LP92_0 (x : (List Int)) (y : (List Int)) (m : Nat) (st_ : St) (K : KX) : Prop := (True) ∧ LoopI (fun (i0 : Int) (v0 : Unit) => (⟨[(0, .data (Ty.sl TInt) x), (1, .data (Ty.sl TInt) y), (5, dI i0)], []⟩ : St)) Z0 (x.length : Int) (F.laws_eqIntS_l0 x y) (fun v0 : Unit => True) (outD (fun v0 : Unit => True → K (.exit 0) (⟨[], []⟩ : St)) (fun q0 : Unit => K .ret (⟨[(4, dB false)], []⟩ : St))) m st_
def L92 (x : (List Int)) (y : (List Int)) : Loops := fun id m st_ K => match id with
 | 0 => LP92_0 x y m st_ K
 | _ => False
theorem vc92 (x : (List Int)) (y : (List Int)) (K : KA) : awp C92 (L92 x y) ann92 (bodyOf f92) ⟨argEnv 0 [.data (Ty.sl TInt) x, .data (Ty.sl TInt) y], []⟩ (outK tab false f92.results.toList (hasBox []) (resK (.dat Ty.bool) K)) =
 (cond (!decide ((x.length : Int) = (y.length : Int))) (K (dB false) []) ((∃ m_, (True) ∧ LoopI (fun (i0 : Int) (v0 : Unit) => (⟨[(0, .data (Ty.sl TInt) x), (1, .data (Ty.sl TInt) y), (5, dI i0)], []⟩ : St)) Z0 (x.length : Int) (F.laws_eqIntS_l0 x y) (fun v0 : Unit => True) (outD (fun v0 : Unit => True → K (dB true) []) (fun q0 : Unit => K (dB false) [])) m_ (⟨[(0, .data (Ty.sl TInt) x), (1, .data (Ty.sl TInt) y), (5, dI Z0)], []⟩ : St)))) := by kernel_rfl
theorem lvc92_0 (x : (List Int)) (y : (List Int))  (i0 : Int) (v0 : Unit) (m : Nat) (K : KX) : awp C92 (L92 x y) ann92 (loopAt (bodyOf f92) 0) (⟨[(0, .data (Ty.sl TInt) x), (1, .data (Ty.sl TInt) y), (5, dI i0)], []⟩ : St) (thenW (fun s' => ∃ m', m' < m ∧ (L92 x y) 0 m' s' K) (exitN 0 (ann92 (behind 0)) K)) =
 (cond (decide (i0 < (x.length : Int))) ((0 ≤ i0) ∧ (i0 < (x.length : Int)) ∧ (0 ≤ i0) ∧ (i0 < (y.length : Int)) ∧ cond (!decide ((nI x i0) = (nI y i0))) (K .ret (⟨[(4, dB false)], []⟩ : St)) ((∃ m_, m_ < m ∧ (L92 x y) 0 m_ (⟨[(0, .data (Ty.sl TInt) x), (1, .data (Ty.sl TInt) y), (5, dI (wrap64 (i0 + Z1)))], []⟩ : St) K))) (K (.exit 0) (⟨[], []⟩ : St))) := by kernel_rfl
theorem con92_ok : ConOk P 92 c92 := by
 refine con_okR (fn := f92) (code := bodyOf f92) (tab_ok tab_check cmp_check) consOk92 mixed func92 rfl rfl fun args hp K h0 => ?_
 obtain ⟨a0, a1, rfl, rfl, h1⟩ := args2_elim h0
 obtain ⟨x, rfl, h2⟩ := withD_elim h1
 obtain ⟨y, rfl, h3⟩ := withD_elim h2
 obtain ⟨h_x, h_y, p0, hK⟩ := h3
 have h : ok (F.laws_eqIntS x y) (fun r => K (dB r) []) := ok_of_eq (F.laws_eqIntS_eq x y h_x h_y p0) hK
 refine ⟨⟨show (2 : Nat) ≤ 26 by decide, show (2 : Nat) ≤ 1000000 by decide⟩, ann92, (L92 x y), (.dat Ty.bool), (loopsN1 (i0 := 0) (by kernel_rfl) ?_), ?_⟩
 ·clear h
  intro m_ s_ K_ h
  obtain ⟨hc0, i0, v0, rfl, hl0, rfl, hv0, h⟩ := (show LP92_0 x y m_ s_ K_ from h)
  rw [lvc92_0 x y i0 v0 _ K_]
  exact (loopI_step h (fun ht0 h => ⟨hl0, ⟨ht0, ⟨hl0, ⟨(ok_guard h).1, have h := (ok_guard h).2; (ok_cond h (fun b_13 h => (ok_ret h :)) (fun b_13 h => (loopI_next (fun m hm => (show LP92_0 x y m _ _ from ⟨hc0, hm⟩)) () rfl hl0 low0 ht0 (sm_len h_x) trivial (ok_ret h :))))⟩⟩⟩⟩) (fun h => (h trivial)))
 ·rw [vc92 x y K]
  exact (ok_cond h (fun b_1 h => (ok_ret h :)) (fun b_1 h => (loopI_start (fun m hm => ⟨trivial, hm⟩) Z0 () rfl (Int.natCast_nonneg 0) trivial (ok_then h (fun v0 h hv0 => (ok_ret h :)) (fun q0 h => (ok_ret h :))))))
def c43 : Con := ⟨[.dat TStep, .dat TStep], fun args hp K => args2 (fun a0 a1 => withD TStep a0 fun x => withD TStep a1 fun y => (Sm TStep x) ∧ (Sm TStep y) ∧ (x = y) ∧ K (dB (true)) []) args hp, .plain⟩
def cons43 : Cons := [(91, c91), (92, c92)]
@[reducible] def C43 : Ctx := ⟨tab, fun t => memN t cmps, cons43, 37, [], 0, false⟩
theorem consOk43 : ConsOk P C43 := by
 refine consOk_cons (enter_ok (fn := f91) func91 (by kernel_rfl) rfl) con91_ok ?_
 refine consOk_cons (enter_ok (fn := f92) func92 (by kernel_rfl) rfl) con92_ok ?_
 exact consOk_nil
def ann43 : Nat → List Dir
 | 0 => [.fixRow 2 TStep, .fixRow 3 TStep, .keep [2, 3]]
 | 1 => [.keep [2, 3, 9]]
 | 2 => [.keep [4]]
 | 3 => [.keep [2, 3, 14]]
 | 4 => [.keep [4]]
 | 5 => [.keep [2, 3, 19]]
 | 6 => [.keep [4]]
 | 7 => [.keep [2, 3, 24]]
 | 8 => [.keep [4]]
 | 9 => [.keep [2, 3, 30]]
 | 10 => [.keep [4]]
 | 11 => [.keep [36]]
 | 12 => [.keep [4]]
 | 13 => [.keep [4]]
 | _ => []
def L43 (x : (TStep).D) (y : (TStep).D) : Loops := fun id m st_ K => match id with
 | _ => False
theorem vc43 (x : (TStep).D) (y : (TStep).D) (K : KA) : awp C43 (L43 x y) ann43 (bodyOf f43) ⟨argEnv 0 [.data TStep x, .data TStep y], []⟩ (outK tab false f43.results.toList (hasBox []) (resK (.dat Ty.bool) K)) =
 (cond (!decide (x.1 = y.1)) (K (dB false) []) (cond (!decide (x.2.1 = y.2.1)) (K (dB false) []) (cond (!decide (x.2.2.1 = y.2.2.1)) (K (dB false) []) (cond (!decide (x.2.2.2.1 = y.2.2.2.1)) (K (dB false) []) ((Sm TPS x.2.2.2.2.1) ∧ (Sm TPS y.2.2.2.2.1) ∧ (x.2.2.2.2.1 = y.2.2.2.2.1) ∧ cond (!(true)) (K (dB false) []) ((Sm (Ty.sl TInt) x.2.2.2.2.2.1) ∧ (Sm (Ty.sl TInt) y.2.2.2.2.2.1) ∧ (x.2.2.2.2.2.1 = y.2.2.2.2.2.1) ∧ cond (!(true)) (K (dB false) []) (K (dB true) []))))))) := by kernel_rfl
theorem con43_ok : ConOk P 43 c43 := by
 refine con_okR (fn := f43) (code := bodyOf f43) (tab_ok tab_check cmp_check) consOk43 mixed func43 rfl rfl fun args hp K h0 => ?_
 obtain ⟨a0, a1, rfl, rfl, h1⟩ := args2_elim h0
 obtain ⟨x, rfl, h2⟩ := withD_elim h1
 obtain ⟨y, rfl, h3⟩ := withD_elim h2
 obtain ⟨h_x, h_y, p0, hK⟩ := h3
 have h : ok (F.laws_eqStep x y) (fun r => K (dB r) []) := ok_of_eq (F.laws_eqStep_eq x y h_x h_y p0) hK
 refine ⟨⟨show (2 : Nat) ≤ 37 by decide, show (2 : Nat) ≤ 1000000 by decide⟩, ann43, (L43 x y), (.dat Ty.bool), (no_loops (by kernel_rfl)), ?_⟩
 ·rw [vc43 x y K]
  exact (ok_cond h (fun b_1 h => (ok_ret h :)) (fun b_1 h => (ok_cond h (fun b_2 h => (ok_ret h :)) (fun b_2 h => (ok_cond h (fun b_3 h => (ok_ret h :)) (fun b_3 h => (ok_cond h (fun b_4 h => (ok_ret h :)) (fun b_4 h => ⟨h_x.2.2.2.2.1, ⟨h_y.2.2.2.2.1, ⟨(ok_guard h).1, have h := (ok_guard h).2; (ok_cond h (fun b_6 h => (ok_ret h :)) (fun b_6 h => ⟨h_x.2.2.2.2.2.1, ⟨h_y.2.2.2.2.2.1, ⟨(ok_guard h).1, have h := (ok_guard h).2; (cond_f (unf (bnf b_6)) (ok_ret h :))⟩⟩⟩))⟩⟩⟩))))))))
def c14 : Con := ⟨[.dat TSS, .dat TSS], fun args hp K => args2 (fun a0 a1 => withD TSS a0 fun x => withD TSS a1 fun y => (Sm TSS x) ∧ (Sm TSS y) ∧ (x = y) ∧ K (dB (true)) []) args hp, .bor⟩
def cons14 : Cons := [(43, c43)]
@[reducible] def C14 : Ctx := ⟨tab, fun t => memN t cmps, cons14, 27, [], 0, false⟩
theorem consOk14 : ConsOk P C14 := by
 refine consOk_cons (enter_ok (fn := f43) func43 (by kernel_rfl) rfl) con43_ok ?_
 exact consOk_nil
def ann14 : Nat → List Dir
 | 0 => [.keep [0, 1]]
 | 1 => [.keep [0, 1, 10]]
 | 2 => [.keep [4]]
 | 3 => [.keep [0, 1, 5]]
 | 4 => [.keep [0, 1, 5, 14]]
 | 5 => [.keep [0, 1, 5]]
 | 6 => [.keep [0, 1, 5, 26]]
 | 7 => [.keep [4]]
 | 8 => [.keep [4]]
 | 100000 => [.keep []]
 | _ => []
@[reducible] def LP14_0 (x : LS) (y : LS) (m : Nat) (st_ : St) (K : KX) : Prop := (True) ∧ LoopI (fun (i0 : Int) (v0 : Unit) => (⟨[(0, .data TSS x), (1, .data TSS y), (5, dI i0)], []⟩ : St)) Z0 (x.length : Int) (F.laws_eqStepS_l0 x y) (fun v0 : Unit => True) (outD (fun v0 : Unit => True → K (.exit 0) (⟨[], []⟩ : St)) (fun q0 : Unit => K .ret (⟨[(4, dB false)], []⟩ : St))) m st_
def L14 (x : LS) (y : LS) : Loops := fun id m st_ K => match id with
 | 0 => LP14_0 x y m st_ K
 | _ => False
theorem vc14 (x : LS) (y : LS) (K : KA) : awp C14 (L14 x y) ann14 (bodyOf f14) ⟨argEnv 0 [.data TSS x, .data TSS y], []⟩ (outK tab false f14.results.toList (hasBox []) (resK (.dat Ty.bool) K)) =
 (cond (!decide ((x.length : Int) = (y.length : Int))) (K (dB false) []) ((∃ m_, (True) ∧ LoopI (fun (i0 : Int) (v0 : Unit) => (⟨[(0, .data TSS x), (1, .data TSS y), (5, dI i0)], []⟩ : St)) Z0 (x.length : Int) (F.laws_eqStepS_l0 x y) (fun v0 : Unit => True) (outD (fun v0 : Unit => True → K (dB true) []) (fun q0 : Unit => K (dB false) [])) m_ (⟨[(0, .data TSS x), (1, .data TSS y), (5, dI Z0)], []⟩ : St)))) := by kernel_rfl
theorem lvc14_0 (x : LS) (y : LS)  (i0 : Int) (v0 : Unit) (m : Nat) (K : KX) : awp C14 (L14 x y) ann14 (loopAt (bodyOf f14) 0) (⟨[(0, .data TSS x), (1, .data TSS y), (5, dI i0)], []⟩ : St) (thenW (fun s' => ∃ m', m' < m ∧ (L14 x y) 0 m' s' K) (exitN 0 (ann14 (behind 0)) K)) =
 (cond (decide (i0 < (x.length : Int))) ((0 ≤ i0) ∧ (i0 < (x.length : Int)) ∧ (0 ≤ i0) ∧ (i0 < (y.length : Int)) ∧ (Sm TStep (nS x i0)) ∧ (Sm TStep (nS y i0)) ∧ ((nS x i0) = (nS y i0)) ∧ cond (!(true)) (K .ret (⟨[(4, dB false)], []⟩ : St)) ((∃ m_, m_ < m ∧ (L14 x y) 0 m_ (⟨[(0, .data TSS x), (1, .data TSS y), (5, dI (wrap64 (i0 + Z1)))], []⟩ : St) K))) (K (.exit 0) (⟨[], []⟩ : St))) := by kernel_rfl
theorem con14_ok : ConOk P 14 c14 := by
 refine con_okR (fn := f14) (code := bodyOf f14) (tab_ok tab_check cmp_check) consOk14 mixed func14 rfl rfl fun args hp K h0 => ?_
 obtain ⟨a0, a1, rfl, rfl, h1⟩ := args2_elim h0
 obtain ⟨x, rfl, h2⟩ := withD_elim h1
 obtain ⟨y, rfl, h3⟩ := withD_elim h2
 obtain ⟨h_x, h_y, p0, hK⟩ := h3
 have h : ok (F.laws_eqStepS x y) (fun r => K (dB r) []) := ok_of_eq (F.laws_eqStepS_eq x y h_x h_y p0) hK
 refine ⟨⟨show (2 : Nat) ≤ 27 by decide, show (2 : Nat) ≤ 1000000 by decide⟩, ann14, (L14 x y), (.dat Ty.bool), (loopsN1 (i0 := 0) (by kernel_rfl) ?_), ?_⟩
 ·clear h
  intro m_ s_ K_ h
  obtain ⟨hc0, i0, v0, rfl, hl0, rfl, hv0, h⟩ := (show LP14_0 x y m_ s_ K_ from h)
  rw [lvc14_0 x y i0 v0 _ K_]
  exact (loopI_step h (fun ht0 h => ⟨hl0, ⟨ht0, ⟨hl0, ⟨(ok_guard h).1, have h := (ok_guard h).2; ⟨(sm_nth h_x i0), ⟨(sm_nth h_y i0), ⟨(ok_guard h).1, have h := (ok_guard h).2; (ok_cond h (fun b_16 h => (ok_ret h :)) (fun b_16 h => (loopI_next (fun m hm => (show LP14_0 x y m _ _ from ⟨hc0, hm⟩)) () rfl hl0 low0 ht0 (sm_len h_x) trivial (ok_ret h :))))⟩⟩⟩⟩⟩⟩⟩) (fun h => (h trivial)))
 ·rw [vc14 x y K]
  exact (ok_cond h (fun b_1 h => (ok_ret h :)) (fun b_1 h => (loopI_start (fun m hm => ⟨trivial, hm⟩) Z0 () rfl (Int.natCast_nonneg 0) trivial (ok_then h (fun v0 h hv0 => (ok_ret h :)) (fun q0 h => (ok_ret h :))))))
def c75 : Con := ⟨[.dat TVS, .dat TVS], fun args hp K => args2 (fun a0 a1 => withD TVS a0 fun x => withD TVS a1 fun y => (Sm TVS x) ∧ (Sm TVS y) ∧ (x = y) ∧ K (dB (true)) []) args hp, .bor⟩
def cons75 : Cons := [(116, c116)]
@[reducible] def C75 : Ctx := ⟨tab, fun t => memN t cmps, cons75, 27, [], 0, false⟩
theorem consOk75 : ConsOk P C75 := by
 refine consOk_cons (enter_ok (fn := f116) func116 (by kernel_rfl) rfl) con116_ok ?_
 exact consOk_nil
def ann75 : Nat → List Dir
 | 0 => [.keep [0, 1]]
 | 1 => [.keep [0, 1, 10]]
 | 2 => [.keep [4]]
 | 3 => [.keep [0, 1, 5]]
 | 4 => [.keep [0, 1, 5, 14]]
 | 5 => [.keep [0, 1, 5]]
 | 6 => [.keep [0, 1, 5, 26]]
 | 7 => [.keep [4]]
 | 8 => [.keep [4]]
 | 100000 => [.keep []]
 | _ => []
@[reducible] def LP75_0 (x : LV) (y : LV) (m : Nat) (st_ : St) (K : KX) : Prop := (True) ∧ LoopI (fun (i0 : Int) (v0 : Unit) => (⟨[(0, .data TVS x), (1, .data TVS y), (5, dI i0)], []⟩ : St)) Z0 (x.length : Int) (F.laws_eqValueS_l0 x y) (fun v0 : Unit => True) (outD (fun v0 : Unit => True → K (.exit 0) (⟨[], []⟩ : St)) (fun q0 : Unit => K .ret (⟨[(4, dB false)], []⟩ : St))) m st_
def L75 (x : LV) (y : LV) : Loops := fun id m st_ K => match id with
 | 0 => LP75_0 x y m st_ K
 | _ => False
theorem vc75 (x : LV) (y : LV) (K : KA) : awp C75 (L75 x y) ann75 (bodyOf f75) ⟨argEnv 0 [.data TVS x, .data TVS y], []⟩ (outK tab false f75.results.toList (hasBox []) (resK (.dat Ty.bool) K)) =
 (cond (!decide ((x.length : Int) = (y.length : Int))) (K (dB false) []) ((∃ m_, (True) ∧ LoopI (fun (i0 : Int) (v0 : Unit) => (⟨[(0, .data TVS x), (1, .data TVS y), (5, dI i0)], []⟩ : St)) Z0 (x.length : Int) (F.laws_eqValueS_l0 x y) (fun v0 : Unit => True) (outD (fun v0 : Unit => True → K (dB true) []) (fun q0 : Unit => K (dB false) [])) m_ (⟨[(0, .data TVS x), (1, .data TVS y), (5, dI Z0)], []⟩ : St)))) := by kernel_rfl
theorem lvc75_0 (x : LV) (y : LV)  (i0 : Int) (v0 : Unit) (m : Nat) (K : KX) : awp C75 (L75 x y) ann75 (loopAt (bodyOf f75) 0) (⟨[(0, .data TVS x), (1, .data TVS y), (5, dI i0)], []⟩ : St) (thenW (fun s' => ∃ m', m' < m ∧ (L75 x y) 0 m' s' K) (exitN 0 (ann75 (behind 0)) K)) =
 (cond (decide (i0 < (x.length : Int))) ((0 ≤ i0) ∧ (i0 < (x.length : Int)) ∧ (0 ≤ i0) ∧ (i0 < (y.length : Int)) ∧ (Sm TValue (nV x i0)) ∧ (Sm TValue (nV y i0)) ∧ ((nV x i0) = (nV y i0)) ∧ cond (!(true)) (K .ret (⟨[(4, dB false)], []⟩ : St)) ((∃ m_, m_ < m ∧ (L75 x y) 0 m_ (⟨[(0, .data TVS x), (1, .data TVS y), (5, dI (wrap64 (i0 + Z1)))], []⟩ : St) K))) (K (.exit 0) (⟨[], []⟩ : St))) := by kernel_rfl
theorem con75_ok : ConOk P 75 c75 := by
 refine con_okR (fn := f75) (code := bodyOf f75) (tab_ok tab_check cmp_check) consOk75 mixed func75 rfl rfl fun args hp K h0 => ?_
 obtain ⟨a0, a1, rfl, rfl, h1⟩ := args2_elim h0
 obtain ⟨x, rfl, h2⟩ := withD_elim h1
 obtain ⟨y, rfl, h3⟩ := withD_elim h2
 obtain ⟨h_x, h_y, p0, hK⟩ := h3
 have h : ok (F.laws_eqValueS x y) (fun r => K (dB r) []) := ok_of_eq (F.laws_eqValueS_eq x y h_x h_y p0) hK
 refine ⟨⟨show (2 : Nat) ≤ 27 by decide, show (2 : Nat) ≤ 1000000 by decide⟩, ann75, (L75 x y), (.dat Ty.bool), (loopsN1 (i0 := 0) (by kernel_rfl) ?_), ?_⟩
 ·clear h
  intro m_ s_ K_ h
  obtain ⟨hc0, i0, v0, rfl, hl0, rfl, hv0, h⟩ := (show LP75_0 x y m_ s_ K_ from h)
  rw [lvc75_0 x y i0 v0 _ K_]
  exact (loopI_step h (fun ht0 h => ⟨hl0, ⟨ht0, ⟨hl0, ⟨(ok_guard h).1, have h := (ok_guard h).2; ⟨(sm_nth h_x i0), ⟨(sm_nth h_y i0), ⟨(ok_guard h).1, have h := (ok_guard h).2; (ok_cond h (fun b_16 h => (ok_ret h :)) (fun b_16 h => (loopI_next (fun m hm => (show LP75_0 x y m _ _ from ⟨hc0, hm⟩)) () rfl hl0 low0 ht0 (sm_len h_x) trivial (ok_ret h :))))⟩⟩⟩⟩⟩⟩⟩) (fun h => (h trivial)))
 ·rw [vc75 x y K]
  exact (ok_cond h (fun b_1 h => (ok_ret h :)) (fun b_1 h => (loopI_start (fun m hm => ⟨trivial, hm⟩) Z0 () rfl (Int.natCast_nonneg 0) trivial (ok_then h (fun v0 h hv0 => (ok_ret h :)) (fun q0 h => (ok_ret h :))))))
def c32 : Con := ⟨[.dat (Ty.sl TVS), .dat (Ty.sl TVS)], fun args hp K => args2 (fun a0 a1 => withD (Ty.sl TVS) a0 fun x => withD (Ty.sl TVS) a1 fun y => (Sm (Ty.sl TVS) x) ∧ (Sm (Ty.sl TVS) y) ∧ (x = y) ∧ K (dB (true)) []) args hp, .bor⟩
def cons32 : Cons := [(75, c75)]
@[reducible] def C32 : Ctx := ⟨tab, fun t => memN t cmps, cons32, 27, [], 0, false⟩
theorem consOk32 : ConsOk P C32 := by
 refine consOk_cons (enter_ok (fn := f75) func75 (by kernel_rfl) rfl) con75_ok ?_
 exact consOk_nil
def ann32 : Nat → List Dir
 | 0 => [.keep [0, 1]]
 | 1 => [.keep [0, 1, 10]]
 | 2 => [.keep [4]]
 | 3 => [.keep [0, 1, 5]]
 | 4 => [.keep [0, 1, 5, 14]]
 | 5 => [.keep [0, 1, 5]]
 | 6 => [.keep [0, 1, 5, 26]]
 | 7 => [.keep [4]]
 | 8 => [.keep [4]]
 | 100000 => [.keep []]
 | _ => []
@[reducible] def LP32_0 (x : (List LV)) (y : (List LV)) (m : Nat) (st_ : St) (K : KX) : Prop := (True) ∧ LoopI (fun (i0 : Int) (v0 : Unit) => (⟨[(0, .data (Ty.sl TVS) x), (1, .data (Ty.sl TVS) y), (5, dI i0)], []⟩ : St)) Z0 (x.length : Int) (F.laws_eqValueSS_l0 x y) (fun v0 : Unit => True) (outD (fun v0 : Unit => True → K (.exit 0) (⟨[], []⟩ : St)) (fun q0 : Unit => K .ret (⟨[(4, dB false)], []⟩ : St))) m st_
def L32 (x : (List LV)) (y : (List LV)) : Loops := fun id m st_ K => match id with
 | 0 => LP32_0 x y m st_ K
 | _ => False
theorem vc32 (x : (List LV)) (y : (List LV)) (K : KA) : awp C32 (L32 x y) ann32 (bodyOf f32) ⟨argEnv 0 [.data (Ty.sl TVS) x, .data (Ty.sl TVS) y], []⟩ (outK tab false f32.results.toList (hasBox []) (resK (.dat Ty.bool) K)) =
 (cond (!decide ((x.length : Int) = (y.length : Int))) (K (dB false) []) ((∃ m_, (True) ∧ LoopI (fun (i0 : Int) (v0 : Unit) => (⟨[(0, .data (Ty.sl TVS) x), (1, .data (Ty.sl TVS) y), (5, dI i0)], []⟩ : St)) Z0 (x.length : Int) (F.laws_eqValueSS_l0 x y) (fun v0 : Unit => True) (outD (fun v0 : Unit => True → K (dB true) []) (fun q0 : Unit => K (dB false) [])) m_ (⟨[(0, .data (Ty.sl TVS) x), (1, .data (Ty.sl TVS) y), (5, dI Z0)], []⟩ : St)))) := by kernel_rfl
theorem lvc32_0 (x : (List LV)) (y : (List LV))  (i0 : Int) (v0 : Unit) (m : Nat) (K : KX) : awp C32 (L32 x y) ann32 (loopAt (bodyOf f32) 0) (⟨[(0, .data (Ty.sl TVS) x), (1, .data (Ty.sl TVS) y), (5, dI i0)], []⟩ : St) (thenW (fun s' => ∃ m', m' < m ∧ (L32 x y) 0 m' s' K) (exitN 0 (ann32 (behind 0)) K)) =
 (cond (decide (i0 < (x.length : Int))) ((0 ≤ i0) ∧ (i0 < (x.length : Int)) ∧ (0 ≤ i0) ∧ (i0 < (y.length : Int)) ∧ (Sm TVS (nth (t := TVS) x i0)) ∧ (Sm TVS (nth (t := TVS) y i0)) ∧ ((nth (t := TVS) x i0) = (nth (t := TVS) y i0)) ∧ cond (!(true)) (K .ret (⟨[(4, dB false)], []⟩ : St)) ((∃ m_, m_ < m ∧ (L32 x y) 0 m_ (⟨[(0, .data (Ty.sl TVS) x), (1, .data (Ty.sl TVS) y), (5, dI (wrap64 (i0 + Z1)))], []⟩ : St) K))) (K (.exit 0) (⟨[], []⟩ : St))) := by kernel_rfl
theorem con32_ok : ConOk P 32 c32 := by
 refine con_okR (fn := f32) (code := bodyOf f32) (tab_ok tab_check cmp_check) consOk32 mixed func32 rfl rfl fun args hp K h0 => ?_
 obtain ⟨a0, a1, rfl, rfl, h1⟩ := args2_elim h0
 obtain ⟨x, rfl, h2⟩ := withD_elim h1
 obtain ⟨y, rfl, h3⟩ := withD_elim h2
 obtain ⟨h_x, h_y, p0, hK⟩ := h3
 have h : ok (F.laws_eqValueSS x y) (fun r => K (dB r) []) := ok_of_eq (F.laws_eqValueSS_eq x y h_x h_y p0) hK
 refine ⟨⟨show (2 : Nat) ≤ 27 by decide, show (2 : Nat) ≤ 1000000 by decide⟩, ann32, (L32 x y), (.dat Ty.bool), (loopsN1 (i0 := 0) (by kernel_rfl) ?_), ?_⟩
 ·clear h
  intro m_ s_ K_ h
  obtain ⟨hc0, i0, v0, rfl, hl0, rfl, hv0, h⟩ := (show LP32_0 x y m_ s_ K_ from h)
  rw [lvc32_0 x y i0 v0 _ K_]
  exact (loopI_step h (fun ht0 h => ⟨hl0, ⟨ht0, ⟨hl0, ⟨(ok_guard h).1, have h := (ok_guard h).2; ⟨(sm_nth h_x i0), ⟨(sm_nth h_y i0), ⟨(ok_guard h).1, have h := (ok_guard h).2; (ok_cond h (fun b_16 h => (ok_ret h :)) (fun b_16 h => (loopI_next (fun m hm => (show LP32_0 x y m _ _ from ⟨hc0, hm⟩)) () rfl hl0 low0 ht0 (sm_len h_x) trivial (ok_ret h :))))⟩⟩⟩⟩⟩⟩⟩) (fun h => (h trivial)))
 ·rw [vc32 x y K]
  exact (ok_cond h (fun b_1 h => (ok_ret h :)) (fun b_1 h => (loopI_start (fun m hm => ⟨trivial, hm⟩) Z0 () rfl (Int.natCast_nonneg 0) trivial (ok_then h (fun v0 h hv0 => (ok_ret h :)) (fun q0 h => (ok_ret h :))))))
def c125 : Con := ⟨[.dat TColumn, .dat TColumn], fun args hp K => args2 (fun a0 a1 => withD TColumn a0 fun x => withD TColumn a1 fun y => (x = y) ∧ K (dB (true)) []) args hp, .plain⟩
def cons125 : Cons := []
@[reducible] def C125 : Ctx := ⟨tab, fun t => memN t cmps, cons125, 15, [], 0, false⟩
theorem consOk125 : ConsOk P C125 := by
 exact consOk_nil
def ann125 : Nat → List Dir
 | 0 => [.fixRow 2 TColumn, .fixRow 3 TColumn, .keep [2, 3]]
 | 1 => [.keep [2, 3, 9]]
 | 2 => [.keep [4]]
 | 3 => [.keep [14]]
 | 4 => [.keep [4]]
 | 5 => [.keep [4]]
 | _ => []
def L125 (x : (TColumn).D) (y : (TColumn).D) : Loops := fun id m st_ K => match id with
 | _ => False
theorem vc125 (x : (TColumn).D) (y : (TColumn).D) (K : KA) : awp C125 (L125 x y) ann125 (bodyOf f125) ⟨argEnv 0 [.data TColumn x, .data TColumn y], []⟩ (outK tab false f125.results.toList (hasBox []) (resK (.dat Ty.bool) K)) =
 (cond (!decide (x.1 = y.1)) (K (dB false) []) (cond (!(Ty.beq Ty.bool x.2.1 y.2.1)) (K (dB false) []) (K (dB true) []))) := by kernel_rfl
theorem con125_ok : ConOk P 125 c125 := by
 refine con_okR (fn := f125) (code := bodyOf f125) (tab_ok tab_check cmp_check) consOk125 mixed func125 rfl rfl fun args hp K h0 => ?_
 obtain ⟨a0, a1, rfl, rfl, h1⟩ := args2_elim h0
 obtain ⟨x, rfl, h2⟩ := withD_elim h1
 obtain ⟨y, rfl, h3⟩ := withD_elim h2
 obtain ⟨p0, hK⟩ := h3
 have h : ok (F.laws_eqColumn x y) (fun r => K (dB r) []) := ok_of_eq (F.laws_eqColumn_eq x y p0) hK
 refine ⟨⟨show (2 : Nat) ≤ 15 by decide, show (2 : Nat) ≤ 1000000 by decide⟩, ann125, (L125 x y), (.dat Ty.bool), (no_loops (by kernel_rfl)), ?_⟩
 ·rw [vc125 x y K]
  exact (ok_cond h (fun b_1 h => (ok_ret h :)) (fun b_1 h => (ok_cond h (fun b_2 h => (ok_ret h :)) (fun b_2 h => (ok_ret h :)))))
def c93 : Con := ⟨[.dat TCS, .dat TCS], fun args hp K => args2 (fun a0 a1 => withD TCS a0 fun x => withD TCS a1 fun y => (Sm TCS x) ∧ (Sm TCS y) ∧ (x = y) ∧ K (dB (true)) []) args hp, .bor⟩
def cons93 : Cons := [(125, c125)]
@[reducible] def C93 : Ctx := ⟨tab, fun t => memN t cmps, cons93, 27, [], 0, false⟩
theorem consOk93 : ConsOk P C93 := by
 refine consOk_cons (enter_ok (fn := f125) func125 (by kernel_rfl) rfl) con125_ok ?_
 exact consOk_nil
def ann93 : Nat → List Dir
 | 0 => [.keep [0, 1]]
 | 1 => [.keep [0, 1, 10]]
 | 2 => [.keep [4]]
 | 3 => [.keep [0, 1, 5]]
 | 4 => [.keep [0, 1, 5, 14]]
 | 5 => [.keep [0, 1, 5]]
 | 6 => [.keep [0, 1, 5, 26]]
 | 7 => [.keep [4]]
 | 8 => [.keep [4]]
 | 100000 => [.keep []]
 | _ => []
@[reducible] def LP93_0 (x : LC) (y : LC) (m : Nat) (st_ : St) (K : KX) : Prop := (True) ∧ LoopI (fun (i0 : Int) (v0 : Unit) => (⟨[(0, .data TCS x), (1, .data TCS y), (5, dI i0)], []⟩ : St)) Z0 (x.length : Int) (F.laws_eqColumnS_l0 x y) (fun v0 : Unit => True) (outD (fun v0 : Unit => True → K (.exit 0) (⟨[], []⟩ : St)) (fun q0 : Unit => K .ret (⟨[(4, dB false)], []⟩ : St))) m st_
def L93 (x : LC) (y : LC) : Loops := fun id m st_ K => match id with
 | 0 => LP93_0 x y m st_ K
 | _ => False
theorem vc93 (x : LC) (y : LC) (K : KA) : awp C93 (L93 x y) ann93 (bodyOf f93) ⟨argEnv 0 [.data TCS x, .data TCS y], []⟩ (outK tab false f93.results.toList (hasBox []) (resK (.dat Ty.bool) K)) =
 (cond (!decide ((x.length : Int) = (y.length : Int))) (K (dB false) []) ((∃ m_, (True) ∧ LoopI (fun (i0 : Int) (v0 : Unit) => (⟨[(0, .data TCS x), (1, .data TCS y), (5, dI i0)], []⟩ : St)) Z0 (x.length : Int) (F.laws_eqColumnS_l0 x y) (fun v0 : Unit => True) (outD (fun v0 : Unit => True → K (dB true) []) (fun q0 : Unit => K (dB false) [])) m_ (⟨[(0, .data TCS x), (1, .data TCS y), (5, dI Z0)], []⟩ : St)))) := by kernel_rfl
theorem lvc93_0 (x : LC) (y : LC)  (i0 : Int) (v0 : Unit) (m : Nat) (K : KX) : awp C93 (L93 x y) ann93 (loopAt (bodyOf f93) 0) (⟨[(0, .data TCS x), (1, .data TCS y), (5, dI i0)], []⟩ : St) (thenW (fun s' => ∃ m', m' < m ∧ (L93 x y) 0 m' s' K) (exitN 0 (ann93 (behind 0)) K)) =
 (cond (decide (i0 < (x.length : Int))) ((0 ≤ i0) ∧ (i0 < (x.length : Int)) ∧ (0 ≤ i0) ∧ (i0 < (y.length : Int)) ∧ ((nC x i0) = (nC y i0)) ∧ cond (!(true)) (K .ret (⟨[(4, dB false)], []⟩ : St)) ((∃ m_, m_ < m ∧ (L93 x y) 0 m_ (⟨[(0, .data TCS x), (1, .data TCS y), (5, dI (wrap64 (i0 + Z1)))], []⟩ : St) K))) (K (.exit 0) (⟨[], []⟩ : St))) := by kernel_rfl
theorem con93_ok : ConOk P 93 c93 := by
 refine con_okR (fn := f93) (code := bodyOf f93) (tab_ok tab_check cmp_check) consOk93 mixed func93 rfl rfl fun args hp K h0 => ?_
 obtain ⟨a0, a1, rfl, rfl, h1⟩ := args2_elim h0
 obtain ⟨x, rfl, h2⟩ := withD_elim h1
 obtain ⟨y, rfl, h3⟩ := withD_elim h2
 obtain ⟨h_x, h_y, p0, hK⟩ := h3
 have h : ok (F.laws_eqColumnS x y) (fun r => K (dB r) []) := ok_of_eq (F.laws_eqColumnS_eq x y h_x h_y p0) hK
 refine ⟨⟨show (2 : Nat) ≤ 27 by decide, show (2 : Nat) ≤ 1000000 by decide⟩, ann93, (L93 x y), (.dat Ty.bool), (loopsN1 (i0 := 0) (by kernel_rfl) ?_), ?_⟩
 ·clear h
  intro m_ s_ K_ h
  obtain ⟨hc0, i0, v0, rfl, hl0, rfl, hv0, h⟩ := (show LP93_0 x y m_ s_ K_ from h)
  rw [lvc93_0 x y i0 v0 _ K_]
  exact (loopI_step h (fun ht0 h => ⟨hl0, ⟨ht0, ⟨hl0, ⟨(ok_guard h).1, have h := (ok_guard h).2; ⟨(ok_guard h).1, have h := (ok_guard h).2; (ok_cond h (fun b_16 h => (ok_ret h :)) (fun b_16 h => (loopI_next (fun m hm => (show LP93_0 x y m _ _ from ⟨hc0, hm⟩)) () rfl hl0 low0 ht0 (sm_len h_x) trivial (ok_ret h :))))⟩⟩⟩⟩⟩) (fun h => (h trivial)))
 ·rw [vc93 x y K]
  exact (ok_cond h (fun b_1 h => (ok_ret h :)) (fun b_1 h => (loopI_start (fun m hm => ⟨trivial, hm⟩) Z0 () rfl (Int.natCast_nonneg 0) trivial (ok_then h (fun v0 h hv0 => (ok_ret h :)) (fun q0 h => (ok_ret h :))))))
def c44 : Con := ⟨[.dat TTable, .dat TTable], fun args hp K => args2 (fun a0 a1 => withD TTable a0 fun x => withD TTable a1 fun y => (Sm TTable x) ∧ (Sm TTable y) ∧ (x = y) ∧ K (dB (true)) []) args hp, .plain⟩
def cons44 : Cons := [(32, c32), (93, c93)]
@[reducible] def C44 : Ctx := ⟨tab, fun t => memN t cmps, cons44, 17, [], 0, false⟩
theorem consOk44 : ConsOk P C44 := by
 refine consOk_cons (enter_ok (fn := f32) func32 (by kernel_rfl) rfl) con32_ok ?_
 refine consOk_cons (enter_ok (fn := f93) func93 (by kernel_rfl) rfl) con93_ok ?_
 exact consOk_nil
def ann44 : Nat → List Dir
 | 0 => [.fixRow 2 TTable, .fixRow 3 TTable, .keep [2, 3]]
 | 1 => [.keep [2, 3, 10]]
 | 2 => [.keep [4]]
 | 3 => [.keep [16]]
 | 4 => [.keep [4]]
 | 5 => [.keep [4]]
 | _ => []
def L44 (x : (TTable).D) (y : (TTable).D) : Loops := fun id m st_ K => match id with
 | _ => False
theorem vc44 (x : (TTable).D) (y : (TTable).D) (K : KA) : awp C44 (L44 x y) ann44 (bodyOf f44) ⟨argEnv 0 [.data TTable x, .data TTable y], []⟩ (outK tab false f44.results.toList (hasBox []) (resK (.dat Ty.bool) K)) =
 ((Sm TCS x.1) ∧ (Sm TCS y.1) ∧ (x.1 = y.1) ∧ cond (!(true)) (K (dB false) []) ((Sm (Ty.sl TVS) x.2.1) ∧ (Sm (Ty.sl TVS) y.2.1) ∧ (x.2.1 = y.2.1) ∧ cond (!(true)) (K (dB false) []) (K (dB true) []))) := by kernel_rfl
theorem con44_ok : ConOk P 44 c44 := by
 refine con_okR (fn := f44) (code := bodyOf f44) (tab_ok tab_check cmp_check) consOk44 mixed func44 rfl rfl fun args hp K h0 => ?_
 obtain ⟨a0, a1, rfl, rfl, h1⟩ := args2_elim h0
 obtain ⟨x, rfl, h2⟩ := withD_elim h1
 obtain ⟨y, rfl, h3⟩ := withD_elim h2
 obtain ⟨h_x, h_y, p0, hK⟩ := h3
 have h : ok (F.laws_eqTable x y) (fun r => K (dB r) []) := ok_of_eq (F.laws_eqTable_eq x y h_x h_y p0) hK
 refine ⟨⟨show (2 : Nat) ≤ 17 by decide, show (2 : Nat) ≤ 1000000 by decide⟩, ann44, (L44 x y), (.dat Ty.bool), (no_loops (by kernel_rfl)), ?_⟩
 ·rw [vc44 x y K]
  exact ⟨h_x.1, ⟨h_y.1, ⟨(ok_guard h).1, have h := (ok_guard h).2; (ok_cond h (fun b_2 h => (ok_ret h :)) (fun b_2 h => ⟨h_x.2.1, ⟨h_y.2.1, ⟨(ok_guard h).1, have h := (ok_guard h).2; (cond_f (unf (bnf b_2)) (ok_ret h :))⟩⟩⟩))⟩⟩⟩
def c15 : Con := ⟨[.dat TTb, .dat TTb], fun args hp K => args2 (fun a0 a1 => withD TTb a0 fun x => withD TTb a1 fun y => (Sm TTb x) ∧ (Sm TTb y) ∧ (x = y) ∧ K (dB (true)) []) args hp, .bor⟩
def cons15 : Cons := [(44, c44)]
@[reducible] def C15 : Ctx := ⟨tab, fun t => memN t cmps, cons15, 27, [], 0, false⟩
theorem consOk15 : ConsOk P C15 := by
 refine consOk_cons (enter_ok (fn := f44) func44 (by kernel_rfl) rfl) con44_ok ?_
 exact consOk_nil
def ann15 : Nat → List Dir
 | 0 => [.keep [0, 1]]
 | 1 => [.keep [0, 1, 10]]
 | 2 => [.keep [4]]
 | 3 => [.keep [0, 1, 5]]
 | 4 => [.keep [0, 1, 5, 14]]
 | 5 => [.keep [0, 1, 5]]
 | 6 => [.keep [0, 1, 5, 26]]
 | 7 => [.keep [4]]
 | 8 => [.keep [4]]
 | 100000 => [.keep []]
 | _ => []
@[reducible] def LP15_0 (x : LTb) (y : LTb) (m : Nat) (st_ : St) (K : KX) : Prop := (True) ∧ LoopI (fun (i0 : Int) (v0 : Unit) => (⟨[(0, .data TTb x), (1, .data TTb y), (5, dI i0)], []⟩ : St)) Z0 (x.length : Int) (F.laws_eqTableS_l0 x y) (fun v0 : Unit => True) (outD (fun v0 : Unit => True → K (.exit 0) (⟨[], []⟩ : St)) (fun q0 : Unit => K .ret (⟨[(4, dB false)], []⟩ : St))) m st_
def L15 (x : LTb) (y : LTb) : Loops := fun id m st_ K => match id with
 | 0 => LP15_0 x y m st_ K
 | _ => False
theorem vc15 (x : LTb) (y : LTb) (K : KA) : awp C15 (L15 x y) ann15 (bodyOf f15) ⟨argEnv 0 [.data TTb x, .data TTb y], []⟩ (outK tab false f15.results.toList (hasBox []) (resK (.dat Ty.bool) K)) =
 (cond (!decide ((x.length : Int) = (y.length : Int))) (K (dB false) []) ((∃ m_, (True) ∧ LoopI (fun (i0 : Int) (v0 : Unit) => (⟨[(0, .data TTb x), (1, .data TTb y), (5, dI i0)], []⟩ : St)) Z0 (x.length : Int) (F.laws_eqTableS_l0 x y) (fun v0 : Unit => True) (outD (fun v0 : Unit => True → K (dB true) []) (fun q0 : Unit => K (dB false) [])) m_ (⟨[(0, .data TTb x), (1, .data TTb y), (5, dI Z0)], []⟩ : St)))) := by kernel_rfl
theorem lvc15_0 (x : LTb) (y : LTb)  (i0 : Int) (v0 : Unit) (m : Nat) (K : KX) : awp C15 (L15 x y) ann15 (loopAt (bodyOf f15) 0) (⟨[(0, .data TTb x), (1, .data TTb y), (5, dI i0)], []⟩ : St) (thenW (fun s' => ∃ m', m' < m ∧ (L15 x y) 0 m' s' K) (exitN 0 (ann15 (behind 0)) K)) =
 (cond (decide (i0 < (x.length : Int))) ((0 ≤ i0) ∧ (i0 < (x.length : Int)) ∧ (0 ≤ i0) ∧ (i0 < (y.length : Int)) ∧ (Sm TTable (nT x i0)) ∧ (Sm TTable (nT y i0)) ∧ ((nT x i0) = (nT y i0)) ∧ cond (!(true)) (K .ret (⟨[(4, dB false)], []⟩ : St)) ((∃ m_, m_ < m ∧ (L15 x y) 0 m_ (⟨[(0, .data TTb x), (1, .data TTb y), (5, dI (wrap64 (i0 + Z1)))], []⟩ : St) K))) (K (.exit 0) (⟨[], []⟩ : St))) := by kernel_rfl
theorem con15_ok : ConOk P 15 c15 := by
 refine con_okR (fn := f15) (code := bodyOf f15) (tab_ok tab_check cmp_check) consOk15 mixed func15 rfl rfl fun args hp K h0 => ?_
 obtain ⟨a0, a1, rfl, rfl, h1⟩ := args2_elim h0
 obtain ⟨x, rfl, h2⟩ := withD_elim h1
 obtain ⟨y, rfl, h3⟩ := withD_elim h2
 obtain ⟨h_x, h_y, p0, hK⟩ := h3
 have h : ok (F.laws_eqTableS x y) (fun r => K (dB r) []) := ok_of_eq (F.laws_eqTableS_eq x y h_x h_y p0) hK
 refine ⟨⟨show (2 : Nat) ≤ 27 by decide, show (2 : Nat) ≤ 1000000 by decide⟩, ann15, (L15 x y), (.dat Ty.bool), (loopsN1 (i0 := 0) (by kernel_rfl) ?_), ?_⟩
 ·clear h
  intro m_ s_ K_ h
  obtain ⟨hc0, i0, v0, rfl, hl0, rfl, hv0, h⟩ := (show LP15_0 x y m_ s_ K_ from h)
  rw [lvc15_0 x y i0 v0 _ K_]
  exact (loopI_step h (fun ht0 h => ⟨hl0, ⟨ht0, ⟨hl0, ⟨(ok_guard h).1, have h := (ok_guard h).2; ⟨(sm_nth h_x i0), ⟨(sm_nth h_y i0), ⟨(ok_guard h).1, have h := (ok_guard h).2; (ok_cond h (fun b_16 h => (ok_ret h :)) (fun b_16 h => (loopI_next (fun m hm => (show LP15_0 x y m _ _ from ⟨hc0, hm⟩)) () rfl hl0 low0 ht0 (sm_len h_x) trivial (ok_ret h :))))⟩⟩⟩⟩⟩⟩⟩) (fun h => (h trivial)))
 ·rw [vc15 x y K]
  exact (ok_cond h (fun b_1 h => (ok_ret h :)) (fun b_1 h => (loopI_start (fun m hm => ⟨trivial, hm⟩) Z0 () rfl (Int.natCast_nonneg 0) trivial (ok_then h (fun v0 h hv0 => (ok_ret h :)) (fun q0 h => (ok_ret h :))))))
def c94 : Con := ⟨[.dat TInt], fun args hp K => args1 (fun a0 => withD TInt a0 fun k => (k ≤ M.big) ∧ (∀ r : ByteArray, r = (M.markText k) → K (.data Ty.str r) [])) args hp, .plain⟩
def cons94 : Cons := []
@[reducible] def C94 : Ctx := ⟨tab, fun t => memN t cmps, cons94, 20, [], 0, false⟩
theorem consOk94 : ConsOk P C94 := by
 exact consOk_nil
def ann94 : Nat → List Dir
 | 0 => [.keep [0]]
 | 1 => [.keep [0, 5]]
 | 2 => [.keep [2]]
 | 3 => [.keep [0, 3]]
 | 4 => [.keep [0, 3, 7]]
 | 5 => [.keep [0, 3]]
 | 6 => [.keep [0, 3]]
 | 7 => [.keep [2]]
 | 100000 => [.keep [3]]
 | _ => []
@[reducible] def LP94_0 (k : Int) (m : Nat) (st_ : St) (K : KX) : Prop := (True) ∧ LoopW (fun v0 : Int × ByteArray => (⟨[(0, dI v0.1), (3, .data Ty.str v0.2)], []⟩ : St)) (F.laws_markText_l0 k) (fun v0 : Int × ByteArray => True) ((fun e0 : ByteArray => True → K (.exit 0) (⟨[(3, .data Ty.str e0)], []⟩ : St))) m st_
def L94 (k : Int) : Loops := fun id m st_ K => match id with
 | 0 => LP94_0 k m st_ K
 | _ => False
theorem vc94 (k : Int) (K : KA) : awp C94 (L94 k) ann94 (bodyOf f94) ⟨argEnv 0 [dI k], []⟩ (outK tab false f94.results.toList (hasBox []) (resK (.dat Ty.str) K)) =
 (cond (decide (k ≤ Z0)) (K (.data Ty.str (⟨#[109, 48]⟩ : ByteArray)) []) ((∃ m_, (True) ∧ LoopW (fun v0 : Int × ByteArray => (⟨[(0, dI v0.1), (3, .data Ty.str v0.2)], []⟩ : St)) (F.laws_markText_l0 k) (fun v0 : Int × ByteArray => True) ((fun e0 : ByteArray => True → ((⟨#[109]⟩ : ByteArray).size + e0.size ≤ 9223372036854775807) ∧ K (.data Ty.str ((⟨#[109]⟩ : ByteArray) ++ e0)) [])) m_ (⟨[(0, dI k), (3, .data Ty.str (⟨#[]⟩ : ByteArray))], []⟩ : St)))) := by kernel_rfl
theorem lvc94_0 (k : Int)  (v0 : Int × ByteArray) (m : Nat) (K : KX) : awp C94 (L94 k) ann94 (loopAt (bodyOf f94) 0) (⟨[(0, dI v0.1), (3, .data Ty.str v0.2)], []⟩ : St) (thenW (fun s' => ∃ m', m' < m ∧ (L94 k) 0 m' s' K) (exitN 0 (ann94 (behind 0)) K)) =
 (cond (decide (Z0 < v0.1)) (((10 : Int) ≠ 0) ∧ ((strOf [((wrap64 ((48 : Int) + (v0.1.tmod (10 : Int)))) % 256)]).size + v0.2.size ≤ 9223372036854775807) ∧ ((10 : Int) ≠ 0) ∧ (∃ m_, m_ < m ∧ (L94 k) 0 m_ (⟨[(0, dI (wrap64 (v0.1.tdiv (10 : Int)))), (3, .data Ty.str ((strOf [((wrap64 ((48 : Int) + (v0.1.tmod (10 : Int)))) % 256)]) ++ v0.2))], []⟩ : St) K)) (K (.exit 0) (⟨[(3, .data Ty.str v0.2)], []⟩ : St))) := by kernel_rfl
theorem con94_ok : ConOk P 94 c94 := by
 refine con_okR (fn := f94) (code := bodyOf f94) (tab_ok tab_check cmp_check) consOk94 mixed func94 rfl rfl fun args hp K h0 => ?_
 obtain ⟨a0, rfl, rfl, h1⟩ := args1_elim h0
 obtain ⟨k, rfl, h2⟩ := withD_elim h1
 obtain ⟨p0, hK⟩ := h2
 have h : ok (F.laws_markText k) (fun r => K (.data Ty.str r) []) := ok_of_eq (F.laws_markText_eq k p0) (hK _ rfl)
 refine ⟨⟨show (1 : Nat) ≤ 20 by decide, show (1 : Nat) ≤ 1000000 by decide⟩, ann94, (L94 k), (.dat Ty.str), (loopsN1 (i0 := 0) (by kernel_rfl) ?_), ?_⟩
 ·clear h
  intro m_ s_ K_ h
  obtain ⟨hc0, v0, rfl, hv0, h⟩ := (show LP94_0 k m_ s_ K_ from h)
  rw [lvc94_0 k v0 _ K_]
  exact (loopW_step h (fun m1 hm0 h => (ok_cond h (fun b_6 h => ⟨(by decide), ⟨(ok_guard h).1, have h := (ok_guard h).2; ⟨(by decide), (loopW_next (fun m hm => (show LP94_0 k m _ _ from ⟨hc0, hm⟩)) hm0 (wrap64 (v0.1.tdiv (10 : Int)), ((strOf [((wrap64 ((48 : Int) + (v0.1.tmod (10 : Int)))) % 256)]) ++ v0.2)) rfl trivial (ok_ret h :))⟩⟩⟩) (fun b_6 h => ((ok_ret h :) trivial)))))
 ·rw [vc94 k K]
  exact (ok_cond h (fun b_1 h => (ok_ret h :)) (fun b_1 h => (loopW_start (fun m hm => ⟨trivial, hm⟩) (k, (⟨#[]⟩ : ByteArray)) rfl trivial (ok_bind h (fun e0 h hv0 => ⟨(ok_guard h).1, have h := (ok_guard h).2; (ok_ret h :)⟩)))))
def c76 : Con := ⟨[.dat TInt], fun args hp K => hpN 1000000 false TValue (fun x => args2 (fun a0 a1 => withC 1000000 (x.length : Int) a0 (withD TInt a1 fun k => (Ln TVS x) ∧ (0 ≤ k) ∧ (k + (M.count TVS x : Int) ≤ M.big) ∧ (∀ r : LV × Int, r = ((M.mark TVS x k, k + (M.count TVS x : Int))) → K (dI r.2) [(1000000, .arr false TValue r.1)]))) args []) hp, .io⟩
def cons76 : Cons := [(94, c94)]
@[reducible] def C76 : Ctx := ⟨tab, fun t => memN t cmps, cons76, 35, [], 0, false⟩
theorem consOk76 : ConsOk P C76 := by
 refine consOk_cons (enter_ok (fn := f94) func94 (by kernel_rfl) rfl) con94_ok ?_
 exact consOk_nil
def ann76 : Nat → List Dir
 | 0 => [.keep [0, 1]]
 | 1 => [.keep [0, 1, 5]]
 | 2 => [.keep [0, 1, 5, 9]]
 | 3 => [.keep [0, 1, 5]]
 | 4 => [.keep [0, 1, 5]]
 | 5 => [.keep [0, 1, 5]]
 | 6 => [.keep [0, 1, 5]]
 | 7 => [.keep [0, 1, 5]]
 | 8 => [.keep [0, 1, 5]]
 | 9 => [.keep [0, 1, 5]]
 | 10 => [.keep [4]]
 | 100000 => [.keep [1]]
 | _ => []
@[reducible] def LP76_0 (x : LV) (k : Int) (m : Nat) (st_ : St) (K : KX) : Prop := (True) ∧ LoopI (fun (i0 : Int) (v0 : Int × LV) => (⟨[(0, .clp 1000000 (x.length : Int)), (1, dI v0.1), (5, dI i0)], [(1000000, .arr false TValue v0.2)]⟩ : St)) Z0 (x.length : Int) (F.laws_markValueS_l0 x k) (fun v0 : Int × LV => True) (outD (fun v0 : Int × LV => True → K (.exit 0) (⟨[(1, dI v0.1)], [(1000000, .arr false TValue v0.2)]⟩ : St)) (fun _ => False)) m st_
def L76 (x : LV) (k : Int) : Loops := fun id m st_ K => match id with
 | 0 => LP76_0 x k m st_ K
 | _ => False
theorem vc76 (x : LV) (k : Int) (K : KA) : awp C76 (L76 x k) ann76 (bodyOf f76) ⟨argEnv 0 [.clp 1000000 (x.length : Int), dI k], [(1000000, .arr false TValue x)]⟩ (outK tab false f76.results.toList (hasBox [(1000000, .arr false TValue x)]) (resK .raw K)) =
 ((∃ m_, (True) ∧ LoopI (fun (i0 : Int) (v0 : Int × LV) => (⟨[(0, .clp 1000000 (x.length : Int)), (1, dI v0.1), (5, dI i0)], [(1000000, .arr false TValue v0.2)]⟩ : St)) Z0 (x.length : Int) (F.laws_markValueS_l0 x k) (fun v0 : Int × LV => True) (outD (fun v0 : Int × LV => True → K (dI v0.1) [(1000000, .arr false TValue v0.2)]) (fun _ => False)) m_ (⟨[(0, .clp 1000000 (x.length : Int)), (1, dI k), (5, dI Z0)], [(1000000, .arr false TValue x)]⟩ : St))) := by kernel_rfl
theorem lvc76_0 (x : LV) (k : Int)  (i0 : Int) (v0 : Int × LV) (m : Nat) (K : KX) : awp C76 (L76 x k) ann76 (loopAt (bodyOf f76) 0) (⟨[(0, .clp 1000000 (x.length : Int)), (1, dI v0.1), (5, dI i0)], [(1000000, .arr false TValue v0.2)]⟩ : St) (thenW (fun s' => ∃ m', m' < m ∧ (L76 x k) 0 m' s' K) (exitN 0 (ann76 (behind 0)) K)) =
 (cond (decide (i0 < (x.length : Int))) ((0 ≤ i0) ∧ (i0 < (x.length : Int)) ∧ (0 ≤ i0) ∧ (i0 < (x.length : Int)) ∧ (let y_6_5 : LV := ((v0.2.set i0.toNat (v0.1, (nV v0.2 i0).2)).set i0.toNat ((nV (v0.2.set i0.toNat (v0.1, (nV v0.2 i0).2)) i0).1, (wrap64 (v0.1 + Z1), ((nV (v0.2.set i0.toNat (v0.1, (nV v0.2 i0).2)) i0).2).2))); ((wrap64 (wrap64 (v0.1 + Z1) + Z1)) ≤ M.big) ∧ (∀ r_8_3 : ByteArray, r_8_3 = (M.markText (wrap64 (wrap64 (v0.1 + Z1) + Z1))) → (0 ≤ i0) ∧ (i0 < (x.length : Int)) ∧ (let y_8_6 : LV := (y_6_5.set i0.toNat ((nV y_6_5 i0).1, (((nV y_6_5 i0).2).1, (r_8_3, ())))); (∃ m_, m_ < m ∧ (L76 x k) 0 m_ (⟨[(0, .clp 1000000 (x.length : Int)), (1, dI (wrap64 (wrap64 (wrap64 (v0.1 + Z1) + Z1) + Z1))), (5, dI (wrap64 (i0 + Z1)))], [(1000000, .arr false TValue y_8_6)]⟩ : St) K))))) (K (.exit 0) (⟨[(1, dI v0.1)], [(1000000, .arr false TValue v0.2)]⟩ : St))) := by kernel_rfl
theorem con76_ok : ConOk P 76 c76 := by
 refine con_okR (fn := f76) (code := bodyOf f76) (tab_ok tab_check cmp_check) consOk76 mixed func76 rfl rfl fun args hp K h0 => ?_
 unfold c76 at h0
 dsimp only at h0
 obtain ⟨x, rfl, h00⟩ := hpN_elim (n := 1000000) (d := false) (t := TValue) h0
 obtain ⟨a0, a1, rfl, _, h1⟩ := args2_elim h00
 obtain ⟨rfl, h2⟩ := withC_elim h1
 obtain ⟨k, rfl, h3⟩ := withD_elim h2
 obtain ⟨h_x, p0, p1, hK⟩ := h3
 have h : ok (F.laws_markValueS x k) (fun r => K (dI r.2) [(1000000, .arr false TValue r.1)]) := ok_of_eq (F.laws_markValueS_eq x k h_x p0 p1) (hK _ rfl)
 refine ⟨⟨show (2 : Nat) ≤ 35 by decide, show (2 : Nat) ≤ 1000000 by decide⟩, ann76, (L76 x k), .raw, (loopsN1 (i0 := 0) (by kernel_rfl) ?_), ?_⟩
 ·clear h
  intro m_ s_ K_ h
  obtain ⟨hc0, i0, v0, rfl, hl0, rfl, hv0, h⟩ := (show LP76_0 x k m_ s_ K_ from h)
  rw [lvc76_0 x k i0 v0 _ K_]
  exact (loopI_step h (fun ht0 h => ⟨hl0, ⟨ht0, ⟨hl0, ⟨ht0, (let y_6_5 : LV := ((v0.2.set i0.toNat (v0.1, (nV v0.2 i0).2)).set i0.toNat ((nV (v0.2.set i0.toNat (v0.1, (nV v0.2 i0).2)) i0).1, (wrap64 (v0.1 + Z1), ((nV (v0.2.set i0.toNat (v0.1, (nV v0.2 i0).2)) i0).2).2))); have h := ok_let h y_6_5 rfl; ⟨(ok_guard h).1, have h := (ok_guard h).2; (fun r_8_3 e_r_8_3 => have h := ok_let h r_8_3 e_r_8_3; ⟨hl0, ⟨ht0, (let y_8_6 : LV := (y_6_5.set i0.toNat ((nV y_6_5 i0).1, (((nV y_6_5 i0).2).1, (r_8_3, ())))); have h := ok_let h y_8_6 rfl; (loopI_next (fun m hm => (show LP76_0 x k m _ _ from ⟨hc0, hm⟩)) (wrap64 (wrap64 (wrap64 (v0.1 + Z1) + Z1) + Z1), y_8_6) rfl hl0 low0 ht0 (sm_len h_x) trivial (ok_ret h :)))⟩⟩)⟩)⟩⟩⟩⟩) (fun h => (h trivial)))
 ·rw [vc76 x k K]
  exact (loopI_start (fun m hm => ⟨trivial, hm⟩) Z0 (k, x) rfl (Int.natCast_nonneg 0) trivial (ok_then h (fun v0 h hv0 => (ok_ret h :)) (fun _ h => h.elim)))
def c33 : Con := ⟨[.dat TInt], fun args hp K => hpN 1000000 true TVS (fun x => args2 (fun a0 a1 => withC 1000000 (x.length : Int) a0 (withD TInt a1 fun k => (Ln (Ty.sl TVS) x) ∧ (0 ≤ k) ∧ (k + (M.count (Ty.sl TVS) x : Int) ≤ M.big) ∧ (∀ r : (List LV) × Int, r = ((M.mark (Ty.sl TVS) x k, k + (M.count (Ty.sl TVS) x : Int))) → K (dI r.2) [(1000000, .arr true TVS r.1)]))) args []) hp, .io⟩
def cons33 : Cons := [(76, c76)]
@[reducible] def C33 : Ctx := ⟨tab, fun t => memN t cmps, cons33, 19, [], 0, false⟩
theorem consOk33 : ConsOk P C33 := by
 refine consOk_cons (enter_ok (fn := f76) func76 (by kernel_rfl) rfl) con76_ok ?_
 exact consOk_nil
def ann33 : Nat → List Dir
 | 0 => [.keep [0, 1]]
 | 1 => [.keep [0, 1, 5]]
 | 2 => [.keep [0, 1, 5, 9]]
 | 3 => [.keep [0, 1, 5]]
 | 4 => [.keep [0, 1, 5]]
 | 5 => [.keep [4]]
 | 100000 => [.keep [1]]
 | _ => []
@[reducible] def LP33_0 (x : (List LV)) (k : Int) (m : Nat) (st_ : St) (K : KX) : Prop := (True) ∧ LoopI (fun (i0 : Int) (v0 : Int × (List LV)) => (⟨[(0, .clp 1000000 (x.length : Int)), (1, dI v0.1), (5, dI i0)], [(1000000, .arr true TVS v0.2)]⟩ : St)) Z0 (x.length : Int) (F.laws_markValueSS_l0 x k) (fun v0 : Int × (List LV) => True) (outD (fun v0 : Int × (List LV) => True → K (.exit 0) (⟨[(1, dI v0.1)], [(1000000, .arr true TVS v0.2)]⟩ : St)) (fun _ => False)) m st_
def L33 (x : (List LV)) (k : Int) : Loops := fun id m st_ K => match id with
 | 0 => LP33_0 x k m st_ K
 | _ => False
theorem vc33 (x : (List LV)) (k : Int) (K : KA) : awp C33 (L33 x k) ann33 (bodyOf f33) ⟨argEnv 0 [.clp 1000000 (x.length : Int), dI k], [(1000000, .arr true TVS x)]⟩ (outK tab false f33.results.toList (hasBox [(1000000, .arr true TVS x)]) (resK .raw K)) =
 ((∃ m_, (True) ∧ LoopI (fun (i0 : Int) (v0 : Int × (List LV)) => (⟨[(0, .clp 1000000 (x.length : Int)), (1, dI v0.1), (5, dI i0)], [(1000000, .arr true TVS v0.2)]⟩ : St)) Z0 (x.length : Int) (F.laws_markValueSS_l0 x k) (fun v0 : Int × (List LV) => True) (outD (fun v0 : Int × (List LV) => True → K (dI v0.1) [(1000000, .arr true TVS v0.2)]) (fun _ => False)) m_ (⟨[(0, .clp 1000000 (x.length : Int)), (1, dI k), (5, dI Z0)], [(1000000, .arr true TVS x)]⟩ : St))) := by kernel_rfl
theorem lvc33_0 (x : (List LV)) (k : Int)  (i0 : Int) (v0 : Int × (List LV)) (m : Nat) (K : KX) : awp C33 (L33 x k) ann33 (loopAt (bodyOf f33) 0) (⟨[(0, .clp 1000000 (x.length : Int)), (1, dI v0.1), (5, dI i0)], [(1000000, .arr true TVS v0.2)]⟩ : St) (thenW (fun s' => ∃ m', m' < m ∧ (L33 x k) 0 m' s' K) (exitN 0 (ann33 (behind 0)) K)) =
 (cond (decide (i0 < (x.length : Int))) ((0 ≤ i0) ∧ (i0 < (x.length : Int)) ∧ (((nth (t := TVS) v0.2 i0).length : Int) = ((nth (t := TVS) v0.2 i0).length : Int)) ∧ (Ln TVS (nth (t := TVS) v0.2 i0)) ∧ (0 ≤ v0.1) ∧ (v0.1 + (M.count TVS (nth (t := TVS) v0.2 i0) : Int) ≤ M.big) ∧ (∀ r_4_5 : LV × Int, r_4_5 = ((M.mark TVS (nth (t := TVS) v0.2 i0) v0.1, v0.1 + (M.count TVS (nth (t := TVS) v0.2 i0) : Int))) → (r_4_5.1.length = (nth (t := TVS) v0.2 i0).length) ∧ (∃ m_, m_ < m ∧ (L33 x k) 0 m_ (⟨[(0, .clp 1000000 (x.length : Int)), (1, dI r_4_5.2), (5, dI (wrap64 (i0 + Z1)))], [(1000000, .arr true TVS (v0.2.set i0.toNat r_4_5.1))]⟩ : St) K))) (K (.exit 0) (⟨[(1, dI v0.1)], [(1000000, .arr true TVS v0.2)]⟩ : St))) := by kernel_rfl
theorem con33_ok : ConOk P 33 c33 := by
 refine con_okR (fn := f33) (code := bodyOf f33) (tab_ok tab_check cmp_check) consOk33 mixed func33 rfl rfl fun args hp K h0 => ?_
 unfold c33 at h0
 dsimp only at h0
 obtain ⟨x, rfl, h00⟩ := hpN_elim (n := 1000000) (d := true) (t := TVS) h0
 obtain ⟨a0, a1, rfl, _, h1⟩ := args2_elim h00
 obtain ⟨rfl, h2⟩ := withC_elim h1
 obtain ⟨k, rfl, h3⟩ := withD_elim h2
 obtain ⟨h_x, p0, p1, hK⟩ := h3
 have h : ok (F.laws_markValueSS x k) (fun r => K (dI r.2) [(1000000, .arr true TVS r.1)]) := ok_of_eq (F.laws_markValueSS_eq x k h_x p0 p1) (hK _ rfl)
 refine ⟨⟨show (2 : Nat) ≤ 19 by decide, show (2 : Nat) ≤ 1000000 by decide⟩, ann33, (L33 x k), .raw, (loopsN1 (i0 := 0) (by kernel_rfl) ?_), ?_⟩
 ·clear h
  intro m_ s_ K_ h
  obtain ⟨hc0, i0, v0, rfl, hl0, rfl, hv0, h⟩ := (show LP33_0 x k m_ s_ K_ from h)
  rw [lvc33_0 x k i0 v0 _ K_]
  exact (loopI_step h (fun ht0 h => ⟨hl0, ⟨ht0, ⟨rfl, ⟨(ok_guard h).1, have h := (ok_guard h).2; ⟨(ok_guard h).1, have h := (ok_guard h).2; ⟨(ok_guard h).1, have h := (ok_guard h).2; (fun r_4_5 e_r_4_5 => have h := ok_let h r_4_5 e_r_4_5; ⟨(by rw [e_r_4_5]; exact (M.mark_len TValue _ _)), (loopI_next (fun m hm => (show LP33_0 x k m _ _ from ⟨hc0, hm⟩)) (r_4_5.2, (v0.2.set i0.toNat r_4_5.1)) rfl hl0 low0 ht0 (sm_len h_x) trivial (ok_ret h :))⟩)⟩⟩⟩⟩⟩⟩) (fun h => (h trivial)))
 ·rw [vc33 x k K]
  exact (loopI_start (fun m hm => ⟨trivial, hm⟩) Z0 (k, x) rfl (Int.natCast_nonneg 0) trivial (ok_then h (fun v0 h hv0 => (ok_ret h :)) (fun _ h => h.elim)))
def c45 : Con := ⟨[.dat TInt], fun args hp K => hpN 1000000 false TColumn (fun x => args2 (fun a0 a1 => withC 1000000 (x.length : Int) a0 (withD TInt a1 fun k => (Ln TCS x) ∧ (0 ≤ k) ∧ (k + (M.count TCS x : Int) ≤ M.big) ∧ (∀ r : LC × Int, r = ((M.mark TCS x k, k + (M.count TCS x : Int))) → K (dI r.2) [(1000000, .arr false TColumn r.1)]))) args []) hp, .io⟩
def cons45 : Cons := []
@[reducible] def C45 : Ctx := ⟨tab, fun t => memN t cmps, cons45, 29, [], 0, false⟩
theorem consOk45 : ConsOk P C45 := by
 exact consOk_nil
def ann45 : Nat → List Dir
 | 0 => [.keep [0, 1]]
 | 1 => [.keep [0, 1, 5]]
 | 2 => [.keep [0, 1, 5, 9]]
 | 3 => [.keep [0, 1, 5]]
 | 4 => [.keep [0, 1, 5]]
 | 5 => [.keep [0, 1, 5]]
 | 6 => [.keep [0, 1, 5]]
 | 7 => [.keep [0, 1, 5]]
 | 8 => [.keep [4]]
 | 100000 => [.keep [1]]
 | _ => []
@[reducible] def LP45_0 (x : LC) (k : Int) (m : Nat) (st_ : St) (K : KX) : Prop := (True) ∧ LoopI (fun (i0 : Int) (v0 : Int × LC) => (⟨[(0, .clp 1000000 (x.length : Int)), (1, dI v0.1), (5, dI i0)], [(1000000, .arr false TColumn v0.2)]⟩ : St)) Z0 (x.length : Int) (F.laws_markColumnS_l0 x k) (fun v0 : Int × LC => True) (outD (fun v0 : Int × LC => True → K (.exit 0) (⟨[(1, dI v0.1)], [(1000000, .arr false TColumn v0.2)]⟩ : St)) (fun _ => False)) m st_
def L45 (x : LC) (k : Int) : Loops := fun id m st_ K => match id with
 | 0 => LP45_0 x k m st_ K
 | _ => False
theorem vc45 (x : LC) (k : Int) (K : KA) : awp C45 (L45 x k) ann45 (bodyOf f45) ⟨argEnv 0 [.clp 1000000 (x.length : Int), dI k], [(1000000, .arr false TColumn x)]⟩ (outK tab false f45.results.toList (hasBox [(1000000, .arr false TColumn x)]) (resK .raw K)) =
 ((∃ m_, (True) ∧ LoopI (fun (i0 : Int) (v0 : Int × LC) => (⟨[(0, .clp 1000000 (x.length : Int)), (1, dI v0.1), (5, dI i0)], [(1000000, .arr false TColumn v0.2)]⟩ : St)) Z0 (x.length : Int) (F.laws_markColumnS_l0 x k) (fun v0 : Int × LC => True) (outD (fun v0 : Int × LC => True → K (dI v0.1) [(1000000, .arr false TColumn v0.2)]) (fun _ => False)) m_ (⟨[(0, .clp 1000000 (x.length : Int)), (1, dI k), (5, dI Z0)], [(1000000, .arr false TColumn x)]⟩ : St))) := by kernel_rfl
theorem lvc45_0 (x : LC) (k : Int)  (i0 : Int) (v0 : Int × LC) (m : Nat) (K : KX) : awp C45 (L45 x k) ann45 (loopAt (bodyOf f45) 0) (⟨[(0, .clp 1000000 (x.length : Int)), (1, dI v0.1), (5, dI i0)], [(1000000, .arr false TColumn v0.2)]⟩ : St) (thenW (fun s' => ∃ m', m' < m ∧ (L45 x k) 0 m' s' K) (exitN 0 (ann45 (behind 0)) K)) =
 (cond (decide (i0 < (x.length : Int))) ((0 ≤ i0) ∧ (i0 < (x.length : Int)) ∧ (Z3 ≠ 0) ∧ (0 ≤ i0) ∧ (i0 < (x.length : Int)) ∧ (let y_6_7 : LC := ((v0.2.set i0.toNat (v0.1, (nC v0.2 i0).2)).set i0.toNat ((nC (v0.2.set i0.toNat (v0.1, (nC v0.2 i0).2)) i0).1, ((decide (((wrap64 (v0.1 + Z1)).tmod Z3) = Z0)), ()))); (∃ m_, m_ < m ∧ (L45 x k) 0 m_ (⟨[(0, .clp 1000000 (x.length : Int)), (1, dI (wrap64 (wrap64 (v0.1 + Z1) + Z1))), (5, dI (wrap64 (i0 + Z1)))], [(1000000, .arr false TColumn y_6_7)]⟩ : St) K))) (K (.exit 0) (⟨[(1, dI v0.1)], [(1000000, .arr false TColumn v0.2)]⟩ : St))) := by kernel_rfl
theorem con45_ok : ConOk P 45 c45 := by
 refine con_okR (fn := f45) (code := bodyOf f45) (tab_ok tab_check cmp_check) consOk45 mixed func45 rfl rfl fun args hp K h0 => ?_
 unfold c45 at h0
 dsimp only at h0
 obtain ⟨x, rfl, h00⟩ := hpN_elim (n := 1000000) (d := false) (t := TColumn) h0
 obtain ⟨a0, a1, rfl, _, h1⟩ := args2_elim h00
 obtain ⟨rfl, h2⟩ := withC_elim h1
 obtain ⟨k, rfl, h3⟩ := withD_elim h2
 obtain ⟨h_x, p0, p1, hK⟩ := h3
 have h : ok (F.laws_markColumnS x k) (fun r => K (dI r.2) [(1000000, .arr false TColumn r.1)]) := ok_of_eq (F.laws_markColumnS_eq x k h_x p0 p1) (hK _ rfl)
 refine ⟨⟨show (2 : Nat) ≤ 29 by decide, show (2 : Nat) ≤ 1000000 by decide⟩, ann45, (L45 x k), .raw, (loopsN1 (i0 := 0) (by kernel_rfl) ?_), ?_⟩
 ·clear h
  intro m_ s_ K_ h
  obtain ⟨hc0, i0, v0, rfl, hl0, rfl, hv0, h⟩ := (show LP45_0 x k m_ s_ K_ from h)
  rw [lvc45_0 x k i0 v0 _ K_]
  exact (loopI_step h (fun ht0 h => ⟨hl0, ⟨ht0, ⟨(by decide), ⟨hl0, ⟨ht0, (let y_6_7 : LC := ((v0.2.set i0.toNat (v0.1, (nC v0.2 i0).2)).set i0.toNat ((nC (v0.2.set i0.toNat (v0.1, (nC v0.2 i0).2)) i0).1, ((decide (((wrap64 (v0.1 + Z1)).tmod Z3) = Z0)), ()))); have h := ok_let h y_6_7 rfl; (loopI_next (fun m hm => (show LP45_0 x k m _ _ from ⟨hc0, hm⟩)) (wrap64 (wrap64 (v0.1 + Z1) + Z1), y_6_7) rfl hl0 low0 ht0 (sm_len h_x) trivial (ok_ret h :)))⟩⟩⟩⟩⟩) (fun h => (h trivial)))
 ·rw [vc45 x k K]
  exact (loopI_start (fun m hm => ⟨trivial, hm⟩) Z0 (k, x) rfl (Int.natCast_nonneg 0) trivial (ok_then h (fun v0 h hv0 => (ok_ret h :)) (fun _ h => h.elim)))
def c16 : Con := ⟨[.dat TInt], fun args hp K => hpN 1000000 true TTable (fun x => args2 (fun a0 a1 => withC 1000000 (x.length : Int) a0 (withD TInt a1 fun k => (Ln TTb x) ∧ (0 ≤ k) ∧ (k + (M.count TTb x : Int) ≤ M.big) ∧ (∀ r : LTb × Int, r = ((M.mark TTb x k, k + (M.count TTb x : Int))) → K (dI r.2) [(1000000, .arr true TTable r.1)]))) args []) hp, .io⟩
def cons16 : Cons := [(33, c33), (45, c45)]
@[reducible] def C16 : Ctx := ⟨tab, fun t => memN t cmps, cons16, 27, [], 0, false⟩
theorem consOk16 : ConsOk P C16 := by
 refine consOk_cons (enter_ok (fn := f33) func33 (by kernel_rfl) rfl) con33_ok ?_
 refine consOk_cons (enter_ok (fn := f45) func45 (by kernel_rfl) rfl) con45_ok ?_
 exact consOk_nil
def ann16 : Nat → List Dir
 | 0 => [.keep [0, 1]]
 | 1 => [.keep [0, 1, 5]]
 | 2 => [.keep [0, 1, 5, 9]]
 | 3 => [.keep [0, 1, 5]]
 | 4 => [.keep [0, 1, 5]]
 | 5 => [.keep [0, 1, 5]]
 | 6 => [.keep [4]]
 | 100000 => [.keep [1]]
 | _ => []
@[reducible] def LP16_0 (x : LTb) (k : Int) (m : Nat) (st_ : St) (K : KX) : Prop := (True) ∧ LoopI (fun (i0 : Int) (v0 : Int × LTb) => (⟨[(0, .clp 1000000 (x.length : Int)), (1, dI v0.1), (5, dI i0)], [(1000000, .arr true TTable v0.2)]⟩ : St)) Z0 (x.length : Int) (F.laws_markTableS_l0 x k) (fun v0 : Int × LTb => True) (outD (fun v0 : Int × LTb => True → K (.exit 0) (⟨[(1, dI v0.1)], [(1000000, .arr true TTable v0.2)]⟩ : St)) (fun _ => False)) m st_
def L16 (x : LTb) (k : Int) : Loops := fun id m st_ K => match id with
 | 0 => LP16_0 x k m st_ K
 | _ => False
theorem vc16 (x : LTb) (k : Int) (K : KA) : awp C16 (L16 x k) ann16 (bodyOf f16) ⟨argEnv 0 [.clp 1000000 (x.length : Int), dI k], [(1000000, .arr true TTable x)]⟩ (outK tab false f16.results.toList (hasBox [(1000000, .arr true TTable x)]) (resK .raw K)) =
 ((∃ m_, (True) ∧ LoopI (fun (i0 : Int) (v0 : Int × LTb) => (⟨[(0, .clp 1000000 (x.length : Int)), (1, dI v0.1), (5, dI i0)], [(1000000, .arr true TTable v0.2)]⟩ : St)) Z0 (x.length : Int) (F.laws_markTableS_l0 x k) (fun v0 : Int × LTb => True) (outD (fun v0 : Int × LTb => True → K (dI v0.1) [(1000000, .arr true TTable v0.2)]) (fun _ => False)) m_ (⟨[(0, .clp 1000000 (x.length : Int)), (1, dI k), (5, dI Z0)], [(1000000, .arr true TTable x)]⟩ : St))) := by kernel_rfl
theorem lvc16_0 (x : LTb) (k : Int)  (i0 : Int) (v0 : Int × LTb) (m : Nat) (K : KX) : awp C16 (L16 x k) ann16 (loopAt (bodyOf f16) 0) (⟨[(0, .clp 1000000 (x.length : Int)), (1, dI v0.1), (5, dI i0)], [(1000000, .arr true TTable v0.2)]⟩ : St) (thenW (fun s' => ∃ m', m' < m ∧ (L16 x k) 0 m' s' K) (exitN 0 (ann16 (behind 0)) K)) =
 (cond (decide (i0 < (x.length : Int))) ((0 ≤ i0) ∧ (i0 < (x.length : Int)) ∧ ((((nT v0.2 i0).1).length : Int) = (((nT v0.2 i0).1).length : Int)) ∧ (Ln TCS ((nT v0.2 i0).1)) ∧ (0 ≤ v0.1) ∧ (v0.1 + (M.count TCS ((nT v0.2 i0).1) : Int) ≤ M.big) ∧ (∀ r_4_6 : LC × Int, r_4_6 = ((M.mark TCS ((nT v0.2 i0).1) v0.1, v0.1 + (M.count TCS ((nT v0.2 i0).1) : Int))) → (r_4_6.1.length = ((nT v0.2 i0).1).length) ∧ (0 ≤ i0) ∧ (i0 < (x.length : Int)) ∧ (((((nT (v0.2.set i0.toNat (r_4_6.1, (nT v0.2 i0).2)) i0).2).1).length : Int) = ((((nT (v0.2.set i0.toNat (r_4_6.1, (nT v0.2 i0).2)) i0).2).1).length : Int)) ∧ (Ln (Ty.sl TVS) (((nT (v0.2.set i0.toNat (r_4_6.1, (nT v0.2 i0).2)) i0).2).1)) ∧ (0 ≤ r_4_6.2) ∧ (r_4_6.2 + (M.count (Ty.sl TVS) (((nT (v0.2.set i0.toNat (r_4_6.1, (nT v0.2 i0).2)) i0).2).1) : Int) ≤ M.big) ∧ (∀ r_5_6 : (List LV) × Int, r_5_6 = ((M.mark (Ty.sl TVS) (((nT (v0.2.set i0.toNat (r_4_6.1, (nT v0.2 i0).2)) i0).2).1) r_4_6.2, r_4_6.2 + (M.count (Ty.sl TVS) (((nT (v0.2.set i0.toNat (r_4_6.1, (nT v0.2 i0).2)) i0).2).1) : Int))) → (r_5_6.1.length = (((nT (v0.2.set i0.toNat (r_4_6.1, (nT v0.2 i0).2)) i0).2).1).length) ∧ (∃ m_, m_ < m ∧ (L16 x k) 0 m_ (⟨[(0, .clp 1000000 (x.length : Int)), (1, dI r_5_6.2), (5, dI (wrap64 (i0 + Z1)))], [(1000000, .arr true TTable ((v0.2.set i0.toNat (r_4_6.1, (nT v0.2 i0).2)).set i0.toNat ((nT (v0.2.set i0.toNat (r_4_6.1, (nT v0.2 i0).2)) i0).1, (r_5_6.1, ()))))]⟩ : St) K)))) (K (.exit 0) (⟨[(1, dI v0.1)], [(1000000, .arr true TTable v0.2)]⟩ : St))) := by kernel_rfl
theorem con16_ok : ConOk P 16 c16 := by
 refine con_okR (fn := f16) (code := bodyOf f16) (tab_ok tab_check cmp_check) consOk16 mixed func16 rfl rfl fun args hp K h0 => ?_
 unfold c16 at h0
 dsimp only at h0
 obtain ⟨x, rfl, h00⟩ := hpN_elim (n := 1000000) (d := true) (t := TTable) h0
 obtain ⟨a0, a1, rfl, _, h1⟩ := args2_elim h00
 obtain ⟨rfl, h2⟩ := withC_elim h1
 obtain ⟨k, rfl, h3⟩ := withD_elim h2
 obtain ⟨h_x, p0, p1, hK⟩ := h3
 have h : ok (F.laws_markTableS x k) (fun r => K (dI r.2) [(1000000, .arr true TTable r.1)]) := ok_of_eq (F.laws_markTableS_eq x k h_x p0 p1) (hK _ rfl)
 refine ⟨⟨show (2 : Nat) ≤ 27 by decide, show (2 : Nat) ≤ 1000000 by decide⟩, ann16, (L16 x k), .raw, (loopsN1 (i0 := 0) (by kernel_rfl) ?_), ?_⟩
 ·clear h
  intro m_ s_ K_ h
  obtain ⟨hc0, i0, v0, rfl, hl0, rfl, hv0, h⟩ := (show LP16_0 x k m_ s_ K_ from h)
  rw [lvc16_0 x k i0 v0 _ K_]
  exact (loopI_step h (fun ht0 h => ⟨hl0, ⟨ht0, ⟨rfl, ⟨(ok_guard h).1, have h := (ok_guard h).2; ⟨(ok_guard h).1, have h := (ok_guard h).2; ⟨(ok_guard h).1, have h := (ok_guard h).2; (fun r_4_6 e_r_4_6 => have h := ok_let h r_4_6 e_r_4_6; ⟨(by rw [e_r_4_6]; exact (M.mark_len TColumn _ _)), ⟨hl0, ⟨ht0, ⟨rfl, ⟨(ok_guard h).1, have h := (ok_guard h).2; ⟨(ok_guard h).1, have h := (ok_guard h).2; ⟨(ok_guard h).1, have h := (ok_guard h).2; (fun r_5_6 e_r_5_6 => have h := ok_let h r_5_6 e_r_5_6; ⟨(by rw [e_r_5_6]; exact (M.mark_len TVS _ _)), (loopI_next (fun m hm => (show LP16_0 x k m _ _ from ⟨hc0, hm⟩)) (r_5_6.2, ((v0.2.set i0.toNat (r_4_6.1, (nT v0.2 i0).2)).set i0.toNat ((nT (v0.2.set i0.toNat (r_4_6.1, (nT v0.2 i0).2)) i0).1, (r_5_6.1, ())))) rfl hl0 low0 ht0 (sm_len h_x) trivial (ok_ret h :))⟩)⟩⟩⟩⟩⟩⟩⟩)⟩⟩⟩⟩⟩⟩) (fun h => (h trivial)))
 ·rw [vc16 x k K]
  exact (loopI_start (fun m hm => ⟨trivial, hm⟩) Z0 (k, x) rfl (Int.natCast_nonneg 0) trivial (ok_then h (fun v0 h hv0 => (ok_ret h :)) (fun _ h => h.elim)))
def c46 : Con := ⟨[.dat TInt], fun args hp K => hpN 1000000 false TPart (fun x => args2 (fun a0 a1 => withC 1000000 (x.length : Int) a0 (withD TInt a1 fun k => (Ln TPS x) ∧ (0 ≤ k) ∧ (k + (M.count TPS x : Int) ≤ M.big) ∧ (∀ r : LPt × Int, r = ((M.mark TPS x k, k + (M.count TPS x : Int))) → K (dI r.2) [(1000000, .arr false TPart r.1)]))) args []) hp, .io⟩
def cons46 : Cons := [(94, c94)]
@[reducible] def C46 : Ctx := ⟨tab, fun t => memN t cmps, cons46, 52, [], 0, false⟩
theorem consOk46 : ConsOk P C46 := by
 refine consOk_cons (enter_ok (fn := f94) func94 (by kernel_rfl) rfl) con94_ok ?_
 exact consOk_nil
def ann46 : Nat → List Dir
 | 0 => [.keep [0, 1]]
 | 1 => [.keep [0, 1, 5]]
 | 2 => [.keep [0, 1, 5, 9]]
 | 3 => [.keep [0, 1, 5]]
 | 4 => [.keep [0, 1, 5]]
 | 5 => [.keep [0, 1, 5]]
 | 6 => [.keep [0, 1, 5]]
 | 7 => [.keep [0, 1, 5]]
 | 8 => [.keep [0, 1, 5]]
 | 9 => [.keep [0, 1, 5]]
 | 10 => [.keep [0, 1, 5]]
 | 11 => [.keep [0, 1, 5]]
 | 12 => [.keep [0, 1, 5]]
 | 13 => [.keep [0, 1, 5]]
 | 14 => [.keep [4]]
 | 100000 => [.keep [1]]
 | _ => []
@[reducible] def LP46_0 (x : LPt) (k : Int) (m : Nat) (st_ : St) (K : KX) : Prop := (True) ∧ LoopI (fun (i0 : Int) (v0 : Int × LPt) => (⟨[(0, .clp 1000000 (x.length : Int)), (1, dI v0.1), (5, dI i0)], [(1000000, .arr false TPart v0.2)]⟩ : St)) Z0 (x.length : Int) (F.laws_markPartS_l0 x k) (fun v0 : Int × LPt => True) (outD (fun v0 : Int × LPt => True → K (.exit 0) (⟨[(1, dI v0.1)], [(1000000, .arr false TPart v0.2)]⟩ : St)) (fun _ => False)) m st_
def L46 (x : LPt) (k : Int) : Loops := fun id m st_ K => match id with
 | 0 => LP46_0 x k m st_ K
 | _ => False
theorem vc46 (x : LPt) (k : Int) (K : KA) : awp C46 (L46 x k) ann46 (bodyOf f46) ⟨argEnv 0 [.clp 1000000 (x.length : Int), dI k], [(1000000, .arr false TPart x)]⟩ (outK tab false f46.results.toList (hasBox [(1000000, .arr false TPart x)]) (resK .raw K)) =
 ((∃ m_, (True) ∧ LoopI (fun (i0 : Int) (v0 : Int × LPt) => (⟨[(0, .clp 1000000 (x.length : Int)), (1, dI v0.1), (5, dI i0)], [(1000000, .arr false TPart v0.2)]⟩ : St)) Z0 (x.length : Int) (F.laws_markPartS_l0 x k) (fun v0 : Int × LPt => True) (outD (fun v0 : Int × LPt => True → K (dI v0.1) [(1000000, .arr false TPart v0.2)]) (fun _ => False)) m_ (⟨[(0, .clp 1000000 (x.length : Int)), (1, dI k), (5, dI Z0)], [(1000000, .arr false TPart x)]⟩ : St))) := by kernel_rfl
theorem lvc46_0 (x : LPt) (k : Int)  (i0 : Int) (v0 : Int × LPt) (m : Nat) (K : KX) : awp C46 (L46 x k) ann46 (loopAt (bodyOf f46) 0) (⟨[(0, .clp 1000000 (x.length : Int)), (1, dI v0.1), (5, dI i0)], [(1000000, .arr false TPart v0.2)]⟩ : St) (thenW (fun s' => ∃ m', m' < m ∧ (L46 x k) 0 m' s' K) (exitN 0 (ann46 (behind 0)) K)) =
 (cond (decide (i0 < (x.length : Int))) ((0 ≤ i0) ∧ (i0 < (x.length : Int)) ∧ (0 ≤ i0) ∧ (i0 < (x.length : Int)) ∧ (let y_6_5 : LPt := ((v0.2.set i0.toNat (v0.1, (nP v0.2 i0).2)).set i0.toNat ((nP (v0.2.set i0.toNat (v0.1, (nP v0.2 i0).2)) i0).1, (wrap64 (v0.1 + Z1), ((nP (v0.2.set i0.toNat (v0.1, (nP v0.2 i0).2)) i0).2).2))); (0 ≤ i0) ∧ (i0 < (x.length : Int)) ∧ (let y_8_6 : LPt := (y_6_5.set i0.toNat ((nP y_6_5 i0).1, (((nP y_6_5 i0).2).1, ((wrap64 (wrap64 (v0.1 + Z1) + Z1), ((((nP y_6_5 i0).2).2).1).2), ())))); (0 ≤ i0) ∧ (i0 < (x.length : Int)) ∧ (let y_10_6 : LPt := (y_8_6.set i0.toNat ((nP y_8_6 i0).1, (((nP y_8_6 i0).2).1, ((((((nP y_8_6 i0).2).2).1).1, (wrap64 (wrap64 (wrap64 (v0.1 + Z1) + Z1) + Z1), (((((nP y_8_6 i0).2).2).1).2).2)), ())))); ((wrap64 (wrap64 (wrap64 (wrap64 (v0.1 + Z1) + Z1) + Z1) + Z1)) ≤ M.big) ∧ (∀ r_12_3 : ByteArray, r_12_3 = (M.markText (wrap64 (wrap64 (wrap64 (wrap64 (v0.1 + Z1) + Z1) + Z1) + Z1))) → (0 ≤ i0) ∧ (i0 < (x.length : Int)) ∧ (let y_12_7 : LPt := (y_10_6.set i0.toNat ((nP y_10_6 i0).1, (((nP y_10_6 i0).2).1, ((((((nP y_10_6 i0).2).2).1).1, ((((((nP y_10_6 i0).2).2).1).2).1, (r_12_3, ()))), ())))); (∃ m_, m_ < m ∧ (L46 x k) 0 m_ (⟨[(0, .clp 1000000 (x.length : Int)), (1, dI (wrap64 (wrap64 (wrap64 (wrap64 (wrap64 (v0.1 + Z1) + Z1) + Z1) + Z1) + Z1))), (5, dI (wrap64 (i0 + Z1)))], [(1000000, .arr false TPart y_12_7)]⟩ : St) K))))))) (K (.exit 0) (⟨[(1, dI v0.1)], [(1000000, .arr false TPart v0.2)]⟩ : St))) := by kernel_rfl
theorem con46_ok : ConOk P 46 c46 := by
 refine con_okR (fn := f46) (code := bodyOf f46) (tab_ok tab_check cmp_check) consOk46 mixed func46 rfl rfl fun args hp K h0 => ?_
 unfold c46 at h0
 dsimp only at h0
 obtain ⟨x, rfl, h00⟩ := hpN_elim (n := 1000000) (d := false) (t := TPart) h0
 obtain ⟨a0, a1, rfl, _, h1⟩ := args2_elim h00
 obtain ⟨rfl, h2⟩ := withC_elim h1
 obtain ⟨k, rfl, h3⟩ := withD_elim h2
 obtain ⟨h_x, p0, p1, hK⟩ := h3
 have h : ok (F.laws_markPartS x k) (fun r => K (dI r.2) [(1000000, .arr false TPart r.1)]) := ok_of_eq (F.laws_markPartS_eq x k h_x p0 p1) (hK _ rfl)
 refine ⟨⟨show (2 : Nat) ≤ 52 by decide, show (2 : Nat) ≤ 1000000 by decide⟩, ann46, (L46 x k), .raw, (loopsN1 (i0 := 0) (by kernel_rfl) ?_), ?_⟩
 ·clear h
  intro m_ s_ K_ h
  obtain ⟨hc0, i0, v0, rfl, hl0, rfl, hv0, h⟩ := (show LP46_0 x k m_ s_ K_ from h)
  rw [lvc46_0 x k i0 v0 _ K_]
  exact (loopI_step h (fun ht0 h => ⟨hl0, ⟨ht0, ⟨hl0, ⟨ht0, (let y_6_5 : LPt := ((v0.2.set i0.toNat (v0.1, (nP v0.2 i0).2)).set i0.toNat ((nP (v0.2.set i0.toNat (v0.1, (nP v0.2 i0).2)) i0).1, (wrap64 (v0.1 + Z1), ((nP (v0.2.set i0.toNat (v0.1, (nP v0.2 i0).2)) i0).2).2))); have h := ok_let h y_6_5 rfl; ⟨hl0, ⟨ht0, (let y_8_6 : LPt := (y_6_5.set i0.toNat ((nP y_6_5 i0).1, (((nP y_6_5 i0).2).1, ((wrap64 (wrap64 (v0.1 + Z1) + Z1), ((((nP y_6_5 i0).2).2).1).2), ())))); have h := ok_let h y_8_6 rfl; ⟨hl0, ⟨ht0, (let y_10_6 : LPt := (y_8_6.set i0.toNat ((nP y_8_6 i0).1, (((nP y_8_6 i0).2).1, ((((((nP y_8_6 i0).2).2).1).1, (wrap64 (wrap64 (wrap64 (v0.1 + Z1) + Z1) + Z1), (((((nP y_8_6 i0).2).2).1).2).2)), ())))); have h := ok_let h y_10_6 rfl; ⟨(ok_guard h).1, have h := (ok_guard h).2; (fun r_12_3 e_r_12_3 => have h := ok_let h r_12_3 e_r_12_3; ⟨hl0, ⟨ht0, (let y_12_7 : LPt := (y_10_6.set i0.toNat ((nP y_10_6 i0).1, (((nP y_10_6 i0).2).1, ((((((nP y_10_6 i0).2).2).1).1, ((((((nP y_10_6 i0).2).2).1).2).1, (r_12_3, ()))), ())))); have h := ok_let h y_12_7 rfl; (loopI_next (fun m hm => (show LP46_0 x k m _ _ from ⟨hc0, hm⟩)) (wrap64 (wrap64 (wrap64 (wrap64 (wrap64 (v0.1 + Z1) + Z1) + Z1) + Z1) + Z1), y_12_7) rfl hl0 low0 ht0 (sm_len h_x) trivial (ok_ret h :)))⟩⟩)⟩)⟩⟩)⟩⟩)⟩⟩⟩⟩) (fun h => (h trivial)))
 ·rw [vc46 x k K]
  exact (loopI_start (fun m hm => ⟨trivial, hm⟩) Z0 (k, x) rfl (Int.natCast_nonneg 0) trivial (ok_then h (fun v0 h hv0 => (ok_ret h :)) (fun _ h => h.elim)))
def c47 : Con := ⟨[.dat TInt], fun args hp K => hpN 1000000 false TInt (fun x => args2 (fun a0 a1 => withC 1000000 (x.length : Int) a0 (withD TInt a1 fun k => (Ln (Ty.sl TInt) x) ∧ (0 ≤ k) ∧ (k + (M.count (Ty.sl TInt) x : Int) ≤ M.big) ∧ (∀ r : (List Int) × Int, r = ((M.mark (Ty.sl TInt) x k, k + (M.count (Ty.sl TInt) x : Int))) → K (dI r.2) [(1000000, .arr false TInt r.1)]))) args []) hp, .io⟩
def cons47 : Cons := []
@[reducible] def C47 : Ctx := ⟨tab, fun t => memN t cmps, cons47, 19, [], 0, false⟩
theorem consOk47 : ConsOk P C47 := by
 exact consOk_nil
def ann47 : Nat → List Dir
 | 0 => [.keep [0, 1]]
 | 1 => [.keep [0, 1, 5]]
 | 2 => [.keep [0, 1, 5, 9]]
 | 3 => [.keep [0, 1, 5]]
 | 4 => [.keep [0, 1, 5]]
 | 5 => [.keep [0, 1, 5]]
 | 6 => [.keep [4]]
 | 100000 => [.keep [1]]
 | _ => []
@[reducible] def LP47_0 (x : (List Int)) (k : Int) (m : Nat) (st_ : St) (K : KX) : Prop := (True) ∧ LoopI (fun (i0 : Int) (v0 : Int × (List Int)) => (⟨[(0, .clp 1000000 (x.length : Int)), (1, dI v0.1), (5, dI i0)], [(1000000, .arr false TInt v0.2)]⟩ : St)) Z0 (x.length : Int) (F.laws_markIntS_l0 x k) (fun v0 : Int × (List Int) => True) (outD (fun v0 : Int × (List Int) => True → K (.exit 0) (⟨[(1, dI v0.1)], [(1000000, .arr false TInt v0.2)]⟩ : St)) (fun _ => False)) m st_
def L47 (x : (List Int)) (k : Int) : Loops := fun id m st_ K => match id with
 | 0 => LP47_0 x k m st_ K
 | _ => False
theorem vc47 (x : (List Int)) (k : Int) (K : KA) : awp C47 (L47 x k) ann47 (bodyOf f47) ⟨argEnv 0 [.clp 1000000 (x.length : Int), dI k], [(1000000, .arr false TInt x)]⟩ (outK tab false f47.results.toList (hasBox [(1000000, .arr false TInt x)]) (resK .raw K)) =
 ((∃ m_, (True) ∧ LoopI (fun (i0 : Int) (v0 : Int × (List Int)) => (⟨[(0, .clp 1000000 (x.length : Int)), (1, dI v0.1), (5, dI i0)], [(1000000, .arr false TInt v0.2)]⟩ : St)) Z0 (x.length : Int) (F.laws_markIntS_l0 x k) (fun v0 : Int × (List Int) => True) (outD (fun v0 : Int × (List Int) => True → K (dI v0.1) [(1000000, .arr false TInt v0.2)]) (fun _ => False)) m_ (⟨[(0, .clp 1000000 (x.length : Int)), (1, dI k), (5, dI Z0)], [(1000000, .arr false TInt x)]⟩ : St))) := by kernel_rfl
theorem lvc47_0 (x : (List Int)) (k : Int)  (i0 : Int) (v0 : Int × (List Int)) (m : Nat) (K : KX) : awp C47 (L47 x k) ann47 (loopAt (bodyOf f47) 0) (⟨[(0, .clp 1000000 (x.length : Int)), (1, dI v0.1), (5, dI i0)], [(1000000, .arr false TInt v0.2)]⟩ : St) (thenW (fun s' => ∃ m', m' < m ∧ (L47 x k) 0 m' s' K) (exitN 0 (ann47 (behind 0)) K)) =
 (cond (decide (i0 < (x.length : Int))) ((0 ≤ i0) ∧ (i0 < (x.length : Int)) ∧ (∃ m_, m_ < m ∧ (L47 x k) 0 m_ (⟨[(0, .clp 1000000 (x.length : Int)), (1, dI (wrap64 (v0.1 + Z1))), (5, dI (wrap64 (i0 + Z1)))], [(1000000, .arr false TInt (v0.2.set i0.toNat v0.1))]⟩ : St) K)) (K (.exit 0) (⟨[(1, dI v0.1)], [(1000000, .arr false TInt v0.2)]⟩ : St))) := by kernel_rfl
theorem con47_ok : ConOk P 47 c47 := by
 refine con_okR (fn := f47) (code := bodyOf f47) (tab_ok tab_check cmp_check) consOk47 mixed func47 rfl rfl fun args hp K h0 => ?_
 unfold c47 at h0
 dsimp only at h0
 obtain ⟨x, rfl, h00⟩ := hpN_elim (n := 1000000) (d := false) (t := TInt) h0
 obtain ⟨a0, a1, rfl, _, h1⟩ := args2_elim h00
 obtain ⟨rfl, h2⟩ := withC_elim h1
 obtain ⟨k, rfl, h3⟩ := withD_elim h2
 obtain ⟨h_x, p0, p1, hK⟩ := h3
 have h : ok (F.laws_markIntS x k) (fun r => K (dI r.2) [(1000000, .arr false TInt r.1)]) := ok_of_eq (F.laws_markIntS_eq x k h_x p0 p1) (hK _ rfl)
 refine ⟨⟨show (2 : Nat) ≤ 19 by decide, show (2 : Nat) ≤ 1000000 by decide⟩, ann47, (L47 x k), .raw, (loopsN1 (i0 := 0) (by kernel_rfl) ?_), ?_⟩
 ·clear h
  intro m_ s_ K_ h
  obtain ⟨hc0, i0, v0, rfl, hl0, rfl, hv0, h⟩ := (show LP47_0 x k m_ s_ K_ from h)
  rw [lvc47_0 x k i0 v0 _ K_]
  exact (loopI_step h (fun ht0 h => ⟨hl0, ⟨ht0, (loopI_next (fun m hm => (show LP47_0 x k m _ _ from ⟨hc0, hm⟩)) (wrap64 (v0.1 + Z1), (v0.2.set i0.toNat v0.1)) rfl hl0 low0 ht0 (sm_len h_x) trivial (ok_ret h :))⟩⟩) (fun h => (h trivial)))
 ·rw [vc47 x k K]
  exact (loopI_start (fun m hm => ⟨trivial, hm⟩) Z0 (k, x) rfl (Int.natCast_nonneg 0) trivial (ok_then h (fun v0 h hv0 => (ok_ret h :)) (fun _ h => h.elim)))
def c17 : Con := ⟨[.dat TInt], fun args hp K => hpN 1000000 true TStep (fun x => args2 (fun a0 a1 => withC 1000000 (x.length : Int) a0 (withD TInt a1 fun k => (Ln TSS x) ∧ (0 ≤ k) ∧ (k + (M.count TSS x : Int) ≤ M.big) ∧ (∀ r : LS × Int, r = ((M.mark TSS x k, k + (M.count TSS x : Int))) → K (dI r.2) [(1000000, .arr true TStep r.1)]))) args []) hp, .io⟩
def cons17 : Cons := [(46, c46), (47, c47)]
@[reducible] def C17 : Ctx := ⟨tab, fun t => memN t cmps, cons17, 55, [], 0, false⟩
theorem consOk17 : ConsOk P C17 := by
 refine consOk_cons (enter_ok (fn := f46) func46 (by kernel_rfl) rfl) con46_ok ?_
 refine consOk_cons (enter_ok (fn := f47) func47 (by kernel_rfl) rfl) con47_ok ?_
 exact consOk_nil
def ann17 : Nat → List Dir
 | 0 => [.keep [0, 1]]
 | 1 => [.keep [0, 1, 5]]
 | 2 => [.keep [0, 1, 5, 9]]
 | 3 => [.keep [0, 1, 5]]
 | 4 => [.keep [0, 1, 5]]
 | 5 => [.keep [0, 1, 5]]
 | 6 => [.keep [0, 1, 5]]
 | 7 => [.keep [0, 1, 5]]
 | 8 => [.keep [0, 1, 5]]
 | 9 => [.keep [0, 1, 5]]
 | 10 => [.keep [0, 1, 5]]
 | 11 => [.keep [0, 1, 5]]
 | 12 => [.keep [0, 1, 5]]
 | 13 => [.keep [0, 1, 5]]
 | 14 => [.keep [4]]
 | 100000 => [.keep [1]]
 | _ => []
@[reducible] def LP17_0 (x : LS) (k : Int) (m : Nat) (st_ : St) (K : KX) : Prop := (True) ∧ LoopI (fun (i0 : Int) (v0 : Int × LS) => (⟨[(0, .clp 1000000 (x.length : Int)), (1, dI v0.1), (5, dI i0)], [(1000000, .arr true TStep v0.2)]⟩ : St)) Z0 (x.length : Int) (F.laws_markStepS_l0 x k) (fun v0 : Int × LS => True) (outD (fun v0 : Int × LS => True → K (.exit 0) (⟨[(1, dI v0.1)], [(1000000, .arr true TStep v0.2)]⟩ : St)) (fun _ => False)) m st_
def L17 (x : LS) (k : Int) : Loops := fun id m st_ K => match id with
 | 0 => LP17_0 x k m st_ K
 | _ => False
theorem vc17 (x : LS) (k : Int) (K : KA) : awp C17 (L17 x k) ann17 (bodyOf f17) ⟨argEnv 0 [.clp 1000000 (x.length : Int), dI k], [(1000000, .arr true TStep x)]⟩ (outK tab false f17.results.toList (hasBox [(1000000, .arr true TStep x)]) (resK .raw K)) =
 ((∃ m_, (True) ∧ LoopI (fun (i0 : Int) (v0 : Int × LS) => (⟨[(0, .clp 1000000 (x.length : Int)), (1, dI v0.1), (5, dI i0)], [(1000000, .arr true TStep v0.2)]⟩ : St)) Z0 (x.length : Int) (F.laws_markStepS_l0 x k) (fun v0 : Int × LS => True) (outD (fun v0 : Int × LS => True → K (dI v0.1) [(1000000, .arr true TStep v0.2)]) (fun _ => False)) m_ (⟨[(0, .clp 1000000 (x.length : Int)), (1, dI k), (5, dI Z0)], [(1000000, .arr true TStep x)]⟩ : St))) := by kernel_rfl
theorem lvc17_0 (x : LS) (k : Int)  (i0 : Int) (v0 : Int × LS) (m : Nat) (K : KX) : awp C17 (L17 x k) ann17 (loopAt (bodyOf f17) 0) (⟨[(0, .clp 1000000 (x.length : Int)), (1, dI v0.1), (5, dI i0)], [(1000000, .arr true TStep v0.2)]⟩ : St) (thenW (fun s' => ∃ m', m' < m ∧ (L17 x k) 0 m' s' K) (exitN 0 (ann17 (behind 0)) K)) =
 (cond (decide (i0 < (x.length : Int))) ((0 ≤ i0) ∧ (i0 < (x.length : Int)) ∧ (0 ≤ i0) ∧ (i0 < (x.length : Int)) ∧ (let y_6_5 : LS := ((v0.2.set i0.toNat (v0.1, (nS v0.2 i0).2)).set i0.toNat ((nS (v0.2.set i0.toNat (v0.1, (nS v0.2 i0).2)) i0).1, (wrap64 (v0.1 + Z1), ((nS (v0.2.set i0.toNat (v0.1, (nS v0.2 i0).2)) i0).2).2))); (0 ≤ i0) ∧ (i0 < (x.length : Int)) ∧ (let y_8_5 : LS := (y_6_5.set i0.toNat ((nS y_6_5 i0).1, (((nS y_6_5 i0).2).1, (wrap64 (wrap64 (v0.1 + Z1) + Z1), (((nS y_6_5 i0).2).2).2)))); (0 ≤ i0) ∧ (i0 < (x.length : Int)) ∧ (let y_10_5 : LS := (y_8_5.set i0.toNat ((nS y_8_5 i0).1, (((nS y_8_5 i0).2).1, ((((nS y_8_5 i0).2).2).1, (wrap64 (wrap64 (wrap64 (v0.1 + Z1) + Z1) + Z1), ((((nS y_8_5 i0).2).2).2).2))))); (0 ≤ i0) ∧ (i0 < (x.length : Int)) ∧ ((((((((nS y_10_5 i0).2).2).2).2).1).length : Int) = (((((((nS y_10_5 i0).2).2).2).2).1).length : Int)) ∧ (Ln TPS ((((((nS y_10_5 i0).2).2).2).2).1)) ∧ (0 ≤ (wrap64 (wrap64 (wrap64 (wrap64 (v0.1 + Z1) + Z1) + Z1) + Z1))) ∧ ((wrap64 (wrap64 (wrap64 (wrap64 (v0.1 + Z1) + Z1) + Z1) + Z1)) + (M.count TPS ((((((nS y_10_5 i0).2).2).2).2).1) : Int) ≤ M.big) ∧ (∀ r_12_6 : LPt × Int, r_12_6 = ((M.mark TPS ((((((nS y_10_5 i0).2).2).2).2).1) (wrap64 (wrap64 (wrap64 (wrap64 (v0.1 + Z1) + Z1) + Z1) + Z1)), (wrap64 (wrap64 (wrap64 (wrap64 (v0.1 + Z1) + Z1) + Z1) + Z1)) + (M.count TPS ((((((nS y_10_5 i0).2).2).2).2).1) : Int))) → (r_12_6.1.length = ((((((nS y_10_5 i0).2).2).2).2).1).length) ∧ (0 ≤ i0) ∧ (i0 < (x.length : Int)) ∧ (((((((((nS (y_10_5.set i0.toNat ((nS y_10_5 i0).1, (((nS y_10_5 i0).2).1, ((((nS y_10_5 i0).2).2).1, (((((nS y_10_5 i0).2).2).2).1, (r_12_6.1, (((((nS y_10_5 i0).2).2).2).2).2)))))) i0).2).2).2).2).2).1).length : Int) = ((((((((nS (y_10_5.set i0.toNat ((nS y_10_5 i0).1, (((nS y_10_5 i0).2).1, ((((nS y_10_5 i0).2).2).1, (((((nS y_10_5 i0).2).2).2).1, (r_12_6.1, (((((nS y_10_5 i0).2).2).2).2).2)))))) i0).2).2).2).2).2).1).length : Int)) ∧ (Ln (Ty.sl TInt) (((((((nS (y_10_5.set i0.toNat ((nS y_10_5 i0).1, (((nS y_10_5 i0).2).1, ((((nS y_10_5 i0).2).2).1, (((((nS y_10_5 i0).2).2).2).1, (r_12_6.1, (((((nS y_10_5 i0).2).2).2).2).2)))))) i0).2).2).2).2).2).1)) ∧ (0 ≤ r_12_6.2) ∧ (r_12_6.2 + (M.count (Ty.sl TInt) (((((((nS (y_10_5.set i0.toNat ((nS y_10_5 i0).1, (((nS y_10_5 i0).2).1, ((((nS y_10_5 i0).2).2).1, (((((nS y_10_5 i0).2).2).2).1, (r_12_6.1, (((((nS y_10_5 i0).2).2).2).2).2)))))) i0).2).2).2).2).2).1) : Int) ≤ M.big) ∧ (∀ r_13_6 : (List Int) × Int, r_13_6 = ((M.mark (Ty.sl TInt) (((((((nS (y_10_5.set i0.toNat ((nS y_10_5 i0).1, (((nS y_10_5 i0).2).1, ((((nS y_10_5 i0).2).2).1, (((((nS y_10_5 i0).2).2).2).1, (r_12_6.1, (((((nS y_10_5 i0).2).2).2).2).2)))))) i0).2).2).2).2).2).1) r_12_6.2, r_12_6.2 + (M.count (Ty.sl TInt) (((((((nS (y_10_5.set i0.toNat ((nS y_10_5 i0).1, (((nS y_10_5 i0).2).1, ((((nS y_10_5 i0).2).2).1, (((((nS y_10_5 i0).2).2).2).1, (r_12_6.1, (((((nS y_10_5 i0).2).2).2).2).2)))))) i0).2).2).2).2).2).1) : Int))) → (r_13_6.1.length = (((((((nS (y_10_5.set i0.toNat ((nS y_10_5 i0).1, (((nS y_10_5 i0).2).1, ((((nS y_10_5 i0).2).2).1, (((((nS y_10_5 i0).2).2).2).1, (r_12_6.1, (((((nS y_10_5 i0).2).2).2).2).2)))))) i0).2).2).2).2).2).1).length) ∧ (∃ m_, m_ < m ∧ (L17 x k) 0 m_ (⟨[(0, .clp 1000000 (x.length : Int)), (1, dI r_13_6.2), (5, dI (wrap64 (i0 + Z1)))], [(1000000, .arr true TStep ((y_10_5.set i0.toNat ((nS y_10_5 i0).1, (((nS y_10_5 i0).2).1, ((((nS y_10_5 i0).2).2).1, (((((nS y_10_5 i0).2).2).2).1, (r_12_6.1, (((((nS y_10_5 i0).2).2).2).2).2)))))).set i0.toNat ((nS (y_10_5.set i0.toNat ((nS y_10_5 i0).1, (((nS y_10_5 i0).2).1, ((((nS y_10_5 i0).2).2).1, (((((nS y_10_5 i0).2).2).2).1, (r_12_6.1, (((((nS y_10_5 i0).2).2).2).2).2)))))) i0).1, (((nS (y_10_5.set i0.toNat ((nS y_10_5 i0).1, (((nS y_10_5 i0).2).1, ((((nS y_10_5 i0).2).2).1, (((((nS y_10_5 i0).2).2).2).1, (r_12_6.1, (((((nS y_10_5 i0).2).2).2).2).2)))))) i0).2).1, ((((nS (y_10_5.set i0.toNat ((nS y_10_5 i0).1, (((nS y_10_5 i0).2).1, ((((nS y_10_5 i0).2).2).1, (((((nS y_10_5 i0).2).2).2).1, (r_12_6.1, (((((nS y_10_5 i0).2).2).2).2).2)))))) i0).2).2).1, (((((nS (y_10_5.set i0.toNat ((nS y_10_5 i0).1, (((nS y_10_5 i0).2).1, ((((nS y_10_5 i0).2).2).1, (((((nS y_10_5 i0).2).2).2).1, (r_12_6.1, (((((nS y_10_5 i0).2).2).2).2).2)))))) i0).2).2).2).1, ((((((nS (y_10_5.set i0.toNat ((nS y_10_5 i0).1, (((nS y_10_5 i0).2).1, ((((nS y_10_5 i0).2).2).1, (((((nS y_10_5 i0).2).2).2).1, (r_12_6.1, (((((nS y_10_5 i0).2).2).2).2).2)))))) i0).2).2).2).2).1, (r_13_6.1, ()))))))))]⟩ : St) K))))))) (K (.exit 0) (⟨[(1, dI v0.1)], [(1000000, .arr true TStep v0.2)]⟩ : St))) := by kernel_rfl
theorem con17_ok : ConOk P 17 c17 := by
 refine con_okR (fn := f17) (code := bodyOf f17) (tab_ok tab_check cmp_check) consOk17 mixed func17 rfl rfl fun args hp K h0 => ?_
 unfold c17 at h0
 dsimp only at h0
 obtain ⟨x, rfl, h00⟩ := hpN_elim (n := 1000000) (d := true) (t := TStep) h0
 obtain ⟨a0, a1, rfl, _, h1⟩ := args2_elim h00
 obtain ⟨rfl, h2⟩ := withC_elim h1
 obtain ⟨k, rfl, h3⟩ := withD_elim h2
 obtain ⟨h_x, p0, p1, hK⟩ := h3
 have h : ok (F.laws_markStepS x k) (fun r => K (dI r.2) [(1000000, .arr true TStep r.1)]) := ok_of_eq (F.laws_markStepS_eq x k h_x p0 p1) (hK _ rfl)
 refine ⟨⟨show (2 : Nat) ≤ 55 by decide, show (2 : Nat) ≤ 1000000 by decide⟩, ann17, (L17 x k), .raw, (loopsN1 (i0 := 0) (by kernel_rfl) ?_), ?_⟩
 ·clear h
  intro m_ s_ K_ h
  obtain ⟨hc0, i0, v0, rfl, hl0, rfl, hv0, h⟩ := (show LP17_0 x k m_ s_ K_ from h)
  rw [lvc17_0 x k i0 v0 _ K_]
  exact (loopI_step h (fun ht0 h => ⟨hl0, ⟨ht0, ⟨hl0, ⟨ht0, (let y_6_5 : LS := ((v0.2.set i0.toNat (v0.1, (nS v0.2 i0).2)).set i0.toNat ((nS (v0.2.set i0.toNat (v0.1, (nS v0.2 i0).2)) i0).1, (wrap64 (v0.1 + Z1), ((nS (v0.2.set i0.toNat (v0.1, (nS v0.2 i0).2)) i0).2).2))); have h := ok_let h y_6_5 rfl; ⟨hl0, ⟨ht0, (let y_8_5 : LS := (y_6_5.set i0.toNat ((nS y_6_5 i0).1, (((nS y_6_5 i0).2).1, (wrap64 (wrap64 (v0.1 + Z1) + Z1), (((nS y_6_5 i0).2).2).2)))); have h := ok_let h y_8_5 rfl; ⟨hl0, ⟨ht0, (let y_10_5 : LS := (y_8_5.set i0.toNat ((nS y_8_5 i0).1, (((nS y_8_5 i0).2).1, ((((nS y_8_5 i0).2).2).1, (wrap64 (wrap64 (wrap64 (v0.1 + Z1) + Z1) + Z1), ((((nS y_8_5 i0).2).2).2).2))))); have h := ok_let h y_10_5 rfl; ⟨hl0, ⟨ht0, ⟨rfl, ⟨(ok_guard h).1, have h := (ok_guard h).2; ⟨(ok_guard h).1, have h := (ok_guard h).2; ⟨(ok_guard h).1, have h := (ok_guard h).2; (fun r_12_6 e_r_12_6 => have h := ok_let h r_12_6 e_r_12_6; ⟨(by rw [e_r_12_6]; exact (M.mark_len TPart _ _)), ⟨hl0, ⟨ht0, ⟨rfl, ⟨(ok_guard h).1, have h := (ok_guard h).2; ⟨(ok_guard h).1, have h := (ok_guard h).2; ⟨(ok_guard h).1, have h := (ok_guard h).2; (fun r_13_6 e_r_13_6 => have h := ok_let h r_13_6 e_r_13_6; ⟨(by rw [e_r_13_6]; exact (M.mark_len TInt _ _)), (loopI_next (fun m hm => (show LP17_0 x k m _ _ from ⟨hc0, hm⟩)) (r_13_6.2, ((y_10_5.set i0.toNat ((nS y_10_5 i0).1, (((nS y_10_5 i0).2).1, ((((nS y_10_5 i0).2).2).1, (((((nS y_10_5 i0).2).2).2).1, (r_12_6.1, (((((nS y_10_5 i0).2).2).2).2).2)))))).set i0.toNat ((nS (y_10_5.set i0.toNat ((nS y_10_5 i0).1, (((nS y_10_5 i0).2).1, ((((nS y_10_5 i0).2).2).1, (((((nS y_10_5 i0).2).2).2).1, (r_12_6.1, (((((nS y_10_5 i0).2).2).2).2).2)))))) i0).1, (((nS (y_10_5.set i0.toNat ((nS y_10_5 i0).1, (((nS y_10_5 i0).2).1, ((((nS y_10_5 i0).2).2).1, (((((nS y_10_5 i0).2).2).2).1, (r_12_6.1, (((((nS y_10_5 i0).2).2).2).2).2)))))) i0).2).1, ((((nS (y_10_5.set i0.toNat ((nS y_10_5 i0).1, (((nS y_10_5 i0).2).1, ((((nS y_10_5 i0).2).2).1, (((((nS y_10_5 i0).2).2).2).1, (r_12_6.1, (((((nS y_10_5 i0).2).2).2).2).2)))))) i0).2).2).1, (((((nS (y_10_5.set i0.toNat ((nS y_10_5 i0).1, (((nS y_10_5 i0).2).1, ((((nS y_10_5 i0).2).2).1, (((((nS y_10_5 i0).2).2).2).1, (r_12_6.1, (((((nS y_10_5 i0).2).2).2).2).2)))))) i0).2).2).2).1, ((((((nS (y_10_5.set i0.toNat ((nS y_10_5 i0).1, (((nS y_10_5 i0).2).1, ((((nS y_10_5 i0).2).2).1, (((((nS y_10_5 i0).2).2).2).1, (r_12_6.1, (((((nS y_10_5 i0).2).2).2).2).2)))))) i0).2).2).2).2).1, (r_13_6.1, ())))))))) rfl hl0 low0 ht0 (sm_len h_x) trivial (ok_ret h :))⟩)⟩⟩⟩⟩⟩⟩⟩)⟩⟩⟩⟩⟩⟩)⟩⟩)⟩⟩)⟩⟩⟩⟩) (fun h => (h trivial)))
 ·rw [vc17 x k K]
  exact (loopI_start (fun m hm => ⟨trivial, hm⟩) Z0 (k, x) rfl (Int.natCast_nonneg 0) trivial (ok_then h (fun v0 h hv0 => (ok_ret h :)) (fun _ h => h.elim)))
def c48 : Con := ⟨[.dat TPS, .dat TInt], fun args hp K => args2 (fun a0 a1 => withD TPS a0 fun x => withD TInt a1 fun k => (Ln TPS x) ∧ (0 ≤ k) ∧ (k + (M.count TPS x : Int) ≤ M.big) ∧ (M.mark TPS x k = x) ∧ K (dI (k + (M.count TPS x : Int))) []) args hp, .bor⟩
def cons48 : Cons := [(94, c94)]
@[reducible] def C48 : Ctx := ⟨tab, fun t => memN t cmps, cons48, 62, [], 0, false⟩
theorem consOk48 : ConsOk P C48 := by
 refine consOk_cons (enter_ok (fn := f94) func94 (by kernel_rfl) rfl) con94_ok ?_
 exact consOk_nil
def ann48 : Nat → List Dir
 | 0 => [.keep [0, 1]]
 | 1 => [.keep [0, 1, 5]]
 | 2 => [.keep [0, 1, 5, 9]]
 | 3 => [.keep [0, 1, 5]]
 | 4 => [.keep [0, 1, 5, 18]]
 | 5 => [.keep [4]]
 | 6 => [.keep [0, 1, 5]]
 | 7 => [.keep [0, 1, 5, 27]]
 | 8 => [.keep [4]]
 | 9 => [.keep [0, 1, 5]]
 | 10 => [.keep [0, 1, 5, 37]]
 | 11 => [.keep [4]]
 | 12 => [.keep [0, 1, 5]]
 | 13 => [.keep [0, 1, 5, 47]]
 | 14 => [.keep [4]]
 | 15 => [.keep [0, 1, 5]]
 | 16 => [.keep [0, 1, 5, 58]]
 | 17 => [.keep [4]]
 | 18 => [.keep [0, 1, 5]]
 | 19 => [.keep [4]]
 | 100000 => [.keep [1]]
 | _ => []
@[reducible] def LP48_0 (x : LPt) (k : Int) (m : Nat) (st_ : St) (K : KX) : Prop := (True) ∧ LoopE (t := TPart) (fun (i0 : Int) (v0 : Int) => (⟨[(0, .data TPS x), (1, dI v0), (5, dI i0)], []⟩ : St)) x (F.laws_heldPartS_l0 x k) (fun v0 : Int => True) (outD (fun v0 : Int => True → K (.exit 0) (⟨[(1, dI v0)], []⟩ : St)) (fun q0 : Unit => K .ret (⟨[(4, dI (-1 : Int))], []⟩ : St))) m st_
def L48 (x : LPt) (k : Int) : Loops := fun id m st_ K => match id with
 | 0 => LP48_0 x k m st_ K
 | _ => False
theorem vc48 (x : LPt) (k : Int) (K : KA) : awp C48 (L48 x k) ann48 (bodyOf f48) ⟨argEnv 0 [.data TPS x, dI k], []⟩ (outK tab false f48.results.toList (hasBox []) (resK (.dat TInt) K)) =
 ((∃ m_, (True) ∧ LoopE (t := TPart) (fun (i0 : Int) (v0 : Int) => (⟨[(0, .data TPS x), (1, dI v0), (5, dI i0)], []⟩ : St)) x (F.laws_heldPartS_l0 x k) (fun v0 : Int => True) (outD (fun v0 : Int => True → K (dI v0) []) (fun q0 : Unit => K (dI (-1 : Int)) [])) m_ (⟨[(0, .data TPS x), (1, dI k), (5, dI Z0)], []⟩ : St))) := by kernel_rfl
theorem lvc48_0 (x : LPt) (k : Int)  (i0 : Int) (v0 : Int) (m : Nat) (K : KX) : awp C48 (L48 x k) ann48 (loopAt (bodyOf f48) 0) (⟨[(0, .data TPS x), (1, dI v0), (5, dI i0)], []⟩ : St) (thenW (fun s' => ∃ m', m' < m ∧ (L48 x k) 0 m' s' K) (exitN 0 (ann48 (behind 0)) K)) =
 (cond (decide (i0 < (x.length : Int))) ((0 ≤ i0) ∧ (i0 < (x.length : Int)) ∧ cond (!decide ((nP x i0).1 = v0)) (K .ret (⟨[(4, dI (-1 : Int))], []⟩ : St)) ((0 ≤ i0) ∧ (i0 < (x.length : Int)) ∧ cond (!decide (((nP x i0).2).1 = wrap64 (v0 + Z1))) (K .ret (⟨[(4, dI (-1 : Int))], []⟩ : St)) ((0 ≤ i0) ∧ (i0 < (x.length : Int)) ∧ cond (!decide (((((nP x i0).2).2).1).1 = wrap64 (wrap64 (v0 + Z1) + Z1))) (K .ret (⟨[(4, dI (-1 : Int))], []⟩ : St)) ((0 ≤ i0) ∧ (i0 < (x.length : Int)) ∧ cond (!decide ((((((nP x i0).2).2).1).2).1 = wrap64 (wrap64 (wrap64 (v0 + Z1) + Z1) + Z1))) (K .ret (⟨[(4, dI (-1 : Int))], []⟩ : St)) ((0 ≤ i0) ∧ (i0 < (x.length : Int)) ∧ ((wrap64 (wrap64 (wrap64 (wrap64 (v0 + Z1) + Z1) + Z1) + Z1)) ≤ M.big) ∧ (∀ r_16_7 : ByteArray, r_16_7 = (M.markText (wrap64 (wrap64 (wrap64 (wrap64 (v0 + Z1) + Z1) + Z1) + Z1))) → cond (!decide (((((((nP x i0).2).2).1).2).2).1 = r_16_7)) (K .ret (⟨[(4, dI (-1 : Int))], []⟩ : St)) ((∃ m_, m_ < m ∧ (L48 x k) 0 m_ (⟨[(0, .data TPS x), (1, dI (wrap64 (wrap64 (wrap64 (wrap64 (wrap64 (v0 + Z1) + Z1) + Z1) + Z1) + Z1))), (5, dI (wrap64 (i0 + Z1)))], []⟩ : St) K)))))))) (K (.exit 0) (⟨[(1, dI v0)], []⟩ : St))) := by kernel_rfl
theorem con48_ok : ConOk P 48 c48 := by
 refine con_okR (fn := f48) (code := bodyOf f48) (tab_ok tab_check cmp_check) consOk48 mixed func48 rfl rfl fun args hp K h0 => ?_
 obtain ⟨a0, a1, rfl, rfl, h1⟩ := args2_elim h0
 obtain ⟨x, rfl, h2⟩ := withD_elim h1
 obtain ⟨k, rfl, h3⟩ := withD_elim h2
 obtain ⟨h_x, p0, p1, p2, hK⟩ := h3
 have h : ok (F.laws_heldPartS x k) (fun r => K (dI r) []) := ok_of_eq (F.laws_heldPartS_eq x k h_x p0 p1 p2) hK
 refine ⟨⟨show (2 : Nat) ≤ 62 by decide, show (2 : Nat) ≤ 1000000 by decide⟩, ann48, (L48 x k), (.dat TInt), (loopsN1 (i0 := 0) (by kernel_rfl) ?_), ?_⟩
 ·clear h
  intro m_ s_ K_ h
  obtain ⟨hc0, i0, v0, rfl, hl0, rfl, hv0, h⟩ := (show LP48_0 x k m_ s_ K_ from h)
  rw [lvc48_0 x k i0 v0 _ K_]
  exact (loopE_step (t := TPart) hl0 h (fun ht0 h => ⟨hl0, ⟨ht0, (ok_cond h (fun b_19 h => (ok_ret h :)) (fun b_19 h => ⟨hl0, ⟨ht0, (ok_cond h (fun b_20 h => (ok_ret h :)) (fun b_20 h => ⟨hl0, ⟨ht0, (ok_cond h (fun b_21 h => (ok_ret h :)) (fun b_21 h => ⟨hl0, ⟨ht0, (ok_cond h (fun b_22 h => (ok_ret h :)) (fun b_22 h => ⟨hl0, ⟨ht0, ⟨(ok_guard h).1, have h := (ok_guard h).2; (fun r_16_7 e_r_16_7 => have h := ok_let h r_16_7 e_r_16_7; (ok_cond h (fun b_24 h => (ok_ret h :)) (fun b_24 h => (loopE_next (t := TPart) (fun m hm => (show LP48_0 x k m _ _ from ⟨hc0, hm⟩)) (wrap64 (wrap64 (wrap64 (wrap64 (wrap64 (v0 + Z1) + Z1) + Z1) + Z1) + Z1)) rfl hl0 ht0 (sm_len h_x) trivial (ok_ret h :)))))⟩⟩⟩))⟩⟩))⟩⟩))⟩⟩))⟩⟩) (fun h => (h trivial)))
 ·rw [vc48 x k K]
  exact (loopE_start (t := TPart) (fun m hm => ⟨trivial, hm⟩) k rfl trivial (ok_then h (fun v0 h hv0 => (ok_ret h :)) (fun q0 h => (ok_ret h :))))
def c49 : Con := ⟨[.dat (Ty.sl TInt), .dat TInt], fun args hp K => args2 (fun a0 a1 => withD (Ty.sl TInt) a0 fun x => withD TInt a1 fun k => (Ln (Ty.sl TInt) x) ∧ (0 ≤ k) ∧ (k + (M.count (Ty.sl TInt) x : Int) ≤ M.big) ∧ (M.mark (Ty.sl TInt) x k = x) ∧ K (dI (k + (M.count (Ty.sl TInt) x : Int))) []) args hp, .bor⟩
def cons49 : Cons := []
@[reducible] def C49 : Ctx := ⟨tab, fun t => memN t cmps, cons49, 21, [], 0, false⟩
theorem consOk49 : ConsOk P C49 := by
 exact consOk_nil
def ann49 : Nat → List Dir
 | 0 => [.keep [0, 1]]
 | 1 => [.keep [0, 1, 5]]
 | 2 => [.keep [0, 1, 5, 9]]
 | 3 => [.keep [0, 1, 5]]
 | 4 => [.keep [0, 1, 5, 17]]
 | 5 => [.keep [4]]
 | 6 => [.keep [0, 1, 5]]
 | 7 => [.keep [4]]
 | 100000 => [.keep [1]]
 | _ => []
@[reducible] def LP49_0 (x : (List Int)) (k : Int) (m : Nat) (st_ : St) (K : KX) : Prop := (True) ∧ LoopE (t := TInt) (fun (i0 : Int) (v0 : Int) => (⟨[(0, .data (Ty.sl TInt) x), (1, dI v0), (5, dI i0)], []⟩ : St)) x (F.laws_heldIntS_l0 x k) (fun v0 : Int => True) (outD (fun v0 : Int => True → K (.exit 0) (⟨[(1, dI v0)], []⟩ : St)) (fun q0 : Unit => K .ret (⟨[(4, dI (-1 : Int))], []⟩ : St))) m st_
def L49 (x : (List Int)) (k : Int) : Loops := fun id m st_ K => match id with
 | 0 => LP49_0 x k m st_ K
 | _ => False
theorem vc49 (x : (List Int)) (k : Int) (K : KA) : awp C49 (L49 x k) ann49 (bodyOf f49) ⟨argEnv 0 [.data (Ty.sl TInt) x, dI k], []⟩ (outK tab false f49.results.toList (hasBox []) (resK (.dat TInt) K)) =
 ((∃ m_, (True) ∧ LoopE (t := TInt) (fun (i0 : Int) (v0 : Int) => (⟨[(0, .data (Ty.sl TInt) x), (1, dI v0), (5, dI i0)], []⟩ : St)) x (F.laws_heldIntS_l0 x k) (fun v0 : Int => True) (outD (fun v0 : Int => True → K (dI v0) []) (fun q0 : Unit => K (dI (-1 : Int)) [])) m_ (⟨[(0, .data (Ty.sl TInt) x), (1, dI k), (5, dI Z0)], []⟩ : St))) := by kernel_rfl
theorem lvc49_0 (x : (List Int)) (k : Int)  (i0 : Int) (v0 : Int) (m : Nat) (K : KX) : awp C49 (L49 x k) ann49 (loopAt (bodyOf f49) 0) (⟨[(0, .data (Ty.sl TInt) x), (1, dI v0), (5, dI i0)], []⟩ : St) (thenW (fun s' => ∃ m', m' < m ∧ (L49 x k) 0 m' s' K) (exitN 0 (ann49 (behind 0)) K)) =
 (cond (decide (i0 < (x.length : Int))) ((0 ≤ i0) ∧ (i0 < (x.length : Int)) ∧ cond (!decide ((nI x i0) = v0)) (K .ret (⟨[(4, dI (-1 : Int))], []⟩ : St)) ((∃ m_, m_ < m ∧ (L49 x k) 0 m_ (⟨[(0, .data (Ty.sl TInt) x), (1, dI (wrap64 (v0 + Z1))), (5, dI (wrap64 (i0 + Z1)))], []⟩ : St) K))) (K (.exit 0) (⟨[(1, dI v0)], []⟩ : St))) := by kernel_rfl
theorem con49_ok : ConOk P 49 c49 := by
 refine con_okR (fn := f49) (code := bodyOf f49) (tab_ok tab_check cmp_check) consOk49 mixed func49 rfl rfl fun args hp K h0 => ?_
 obtain ⟨a0, a1, rfl, rfl, h1⟩ := args2_elim h0
 obtain ⟨x, rfl, h2⟩ := withD_elim h1
 obtain ⟨k, rfl, h3⟩ := withD_elim h2
 obtain ⟨h_x, p0, p1, p2, hK⟩ := h3
 have h : ok (F.laws_heldIntS x k) (fun r => K (dI r) []) := ok_of_eq (F.laws_heldIntS_eq x k h_x p0 p1 p2) hK
 refine ⟨⟨show (2 : Nat) ≤ 21 by decide, show (2 : Nat) ≤ 1000000 by decide⟩, ann49, (L49 x k), (.dat TInt), (loopsN1 (i0 := 0) (by kernel_rfl) ?_), ?_⟩
 ·clear h
  intro m_ s_ K_ h
  obtain ⟨hc0, i0, v0, rfl, hl0, rfl, hv0, h⟩ := (show LP49_0 x k m_ s_ K_ from h)
  rw [lvc49_0 x k i0 v0 _ K_]
  exact (loopE_step (t := TInt) hl0 h (fun ht0 h => ⟨hl0, ⟨ht0, (ok_cond h (fun b_9 h => (ok_ret h :)) (fun b_9 h => (loopE_next (t := TInt) (fun m hm => (show LP49_0 x k m _ _ from ⟨hc0, hm⟩)) (wrap64 (v0 + Z1)) rfl hl0 ht0 (sm_len h_x) trivial (ok_ret h :))))⟩⟩) (fun h => (h trivial)))
 ·rw [vc49 x k K]
  exact (loopE_start (t := TInt) (fun m hm => ⟨trivial, hm⟩) k rfl trivial (ok_then h (fun v0 h hv0 => (ok_ret h :)) (fun q0 h => (ok_ret h :))))
def c18 : Con := ⟨[.dat TSS, .dat TInt], fun args hp K => args2 (fun a0 a1 => withD TSS a0 fun x => withD TInt a1 fun k => (Ln TSS x) ∧ (0 ≤ k) ∧ (k + (M.count TSS x : Int) ≤ M.big) ∧ (M.mark TSS x k = x) ∧ K (dI (k + (M.count TSS x : Int))) []) args hp, .bor⟩
def cons18 : Cons := [(48, c48), (49, c49)]
@[reducible] def C18 : Ctx := ⟨tab, fun t => memN t cmps, cons18, 67, [], 0, false⟩
theorem consOk18 : ConsOk P C18 := by
 refine consOk_cons (enter_ok (fn := f48) func48 (by kernel_rfl) rfl) con48_ok ?_
 refine consOk_cons (enter_ok (fn := f49) func49 (by kernel_rfl) rfl) con49_ok ?_
 exact consOk_nil
def ann18 : Nat → List Dir
 | 0 => [.keep [0, 1]]
 | 1 => [.keep [0, 1, 5]]
 | 2 => [.keep [0, 1, 5, 9]]
 | 3 => [.keep [0, 1, 5]]
 | 4 => [.keep [0, 1, 5, 18]]
 | 5 => [.keep [4]]
 | 6 => [.keep [0, 1, 5]]
 | 7 => [.keep [0, 1, 5, 27]]
 | 8 => [.keep [4]]
 | 9 => [.keep [0, 1, 5]]
 | 10 => [.keep [0, 1, 5, 36]]
 | 11 => [.keep [4]]
 | 12 => [.keep [0, 1, 5]]
 | 13 => [.keep [0, 1, 5, 45]]
 | 14 => [.keep [4]]
 | 15 => [.keep [0, 1, 5]]
 | 16 => [.keep [0, 1, 5]]
 | 17 => [.keep [0, 1, 5, 56]]
 | 18 => [.keep [4]]
 | 19 => [.keep [0, 1, 5]]
 | 20 => [.keep [0, 1, 5, 65]]
 | 21 => [.keep [4]]
 | 22 => [.keep [4]]
 | 100000 => [.keep [1]]
 | _ => []
@[reducible] def LP18_0 (x : LS) (k : Int) (m : Nat) (st_ : St) (K : KX) : Prop := (True) ∧ LoopE (t := TStep) (fun (i0 : Int) (v0 : Int) => (⟨[(0, .data TSS x), (1, dI v0), (5, dI i0)], []⟩ : St)) x (F.laws_heldStepS_l0 x k) (fun v0 : Int => True) (outD (fun v0 : Int => True → K (.exit 0) (⟨[(1, dI v0)], []⟩ : St)) (fun q0 : Unit => K .ret (⟨[(4, dI (-1 : Int))], []⟩ : St))) m st_
def L18 (x : LS) (k : Int) : Loops := fun id m st_ K => match id with
 | 0 => LP18_0 x k m st_ K
 | _ => False
theorem vc18 (x : LS) (k : Int) (K : KA) : awp C18 (L18 x k) ann18 (bodyOf f18) ⟨argEnv 0 [.data TSS x, dI k], []⟩ (outK tab false f18.results.toList (hasBox []) (resK (.dat TInt) K)) =
 ((∃ m_, (True) ∧ LoopE (t := TStep) (fun (i0 : Int) (v0 : Int) => (⟨[(0, .data TSS x), (1, dI v0), (5, dI i0)], []⟩ : St)) x (F.laws_heldStepS_l0 x k) (fun v0 : Int => True) (outD (fun v0 : Int => True → K (dI v0) []) (fun q0 : Unit => K (dI (-1 : Int)) [])) m_ (⟨[(0, .data TSS x), (1, dI k), (5, dI Z0)], []⟩ : St))) := by kernel_rfl
theorem lvc18_0 (x : LS) (k : Int)  (i0 : Int) (v0 : Int) (m : Nat) (K : KX) : awp C18 (L18 x k) ann18 (loopAt (bodyOf f18) 0) (⟨[(0, .data TSS x), (1, dI v0), (5, dI i0)], []⟩ : St) (thenW (fun s' => ∃ m', m' < m ∧ (L18 x k) 0 m' s' K) (exitN 0 (ann18 (behind 0)) K)) =
 (cond (decide (i0 < (x.length : Int))) ((0 ≤ i0) ∧ (i0 < (x.length : Int)) ∧ cond (!decide ((nS x i0).1 = v0)) (K .ret (⟨[(4, dI (-1 : Int))], []⟩ : St)) ((0 ≤ i0) ∧ (i0 < (x.length : Int)) ∧ cond (!decide (((nS x i0).2).1 = wrap64 (v0 + Z1))) (K .ret (⟨[(4, dI (-1 : Int))], []⟩ : St)) ((0 ≤ i0) ∧ (i0 < (x.length : Int)) ∧ cond (!decide ((((nS x i0).2).2).1 = wrap64 (wrap64 (v0 + Z1) + Z1))) (K .ret (⟨[(4, dI (-1 : Int))], []⟩ : St)) ((0 ≤ i0) ∧ (i0 < (x.length : Int)) ∧ cond (!decide (((((nS x i0).2).2).2).1 = wrap64 (wrap64 (wrap64 (v0 + Z1) + Z1) + Z1))) (K .ret (⟨[(4, dI (-1 : Int))], []⟩ : St)) ((0 ≤ i0) ∧ (i0 < (x.length : Int)) ∧ (Ln TPS ((((((nS x i0).2).2).2).2).1)) ∧ (0 ≤ (wrap64 (wrap64 (wrap64 (wrap64 (v0 + Z1) + Z1) + Z1) + Z1))) ∧ ((wrap64 (wrap64 (wrap64 (wrap64 (v0 + Z1) + Z1) + Z1) + Z1)) + (M.count TPS ((((((nS x i0).2).2).2).2).1) : Int) ≤ M.big) ∧ (M.mark TPS ((((((nS x i0).2).2).2).2).1) (wrap64 (wrap64 (wrap64 (wrap64 (v0 + Z1) + Z1) + Z1) + Z1)) = ((((((nS x i0).2).2).2).2).1)) ∧ cond (decide (((wrap64 (wrap64 (wrap64 (wrap64 (v0 + Z1) + Z1) + Z1) + Z1)) + (M.count TPS ((((((nS x i0).2).2).2).2).1) : Int)) < Z0)) (K .ret (⟨[(4, dI (-1 : Int))], []⟩ : St)) ((0 ≤ i0) ∧ (i0 < (x.length : Int)) ∧ (Ln (Ty.sl TInt) (((((((nS x i0).2).2).2).2).2).1)) ∧ (0 ≤ ((wrap64 (wrap64 (wrap64 (wrap64 (v0 + Z1) + Z1) + Z1) + Z1)) + (M.count TPS ((((((nS x i0).2).2).2).2).1) : Int))) ∧ (((wrap64 (wrap64 (wrap64 (wrap64 (v0 + Z1) + Z1) + Z1) + Z1)) + (M.count TPS ((((((nS x i0).2).2).2).2).1) : Int)) + (M.count (Ty.sl TInt) (((((((nS x i0).2).2).2).2).2).1) : Int) ≤ M.big) ∧ (M.mark (Ty.sl TInt) (((((((nS x i0).2).2).2).2).2).1) ((wrap64 (wrap64 (wrap64 (wrap64 (v0 + Z1) + Z1) + Z1) + Z1)) + (M.count TPS ((((((nS x i0).2).2).2).2).1) : Int)) = (((((((nS x i0).2).2).2).2).2).1)) ∧ cond (decide ((((wrap64 (wrap64 (wrap64 (wrap64 (v0 + Z1) + Z1) + Z1) + Z1)) + (M.count TPS ((((((nS x i0).2).2).2).2).1) : Int)) + (M.count (Ty.sl TInt) (((((((nS x i0).2).2).2).2).2).1) : Int)) < Z0)) (K .ret (⟨[(4, dI (-1 : Int))], []⟩ : St)) ((∃ m_, m_ < m ∧ (L18 x k) 0 m_ (⟨[(0, .data TSS x), (1, dI (((wrap64 (wrap64 (wrap64 (wrap64 (v0 + Z1) + Z1) + Z1) + Z1)) + (M.count TPS ((((((nS x i0).2).2).2).2).1) : Int)) + (M.count (Ty.sl TInt) (((((((nS x i0).2).2).2).2).2).1) : Int))), (5, dI (wrap64 (i0 + Z1)))], []⟩ : St) K)))))))) (K (.exit 0) (⟨[(1, dI v0)], []⟩ : St))) := by kernel_rfl
theorem con18_ok : ConOk P 18 c18 := by
 refine con_okR (fn := f18) (code := bodyOf f18) (tab_ok tab_check cmp_check) consOk18 mixed func18 rfl rfl fun args hp K h0 => ?_
 obtain ⟨a0, a1, rfl, rfl, h1⟩ := args2_elim h0
 obtain ⟨x, rfl, h2⟩ := withD_elim h1
 obtain ⟨k, rfl, h3⟩ := withD_elim h2
 obtain ⟨h_x, p0, p1, p2, hK⟩ := h3
 have h : ok (F.laws_heldStepS x k) (fun r => K (dI r) []) := ok_of_eq (F.laws_heldStepS_eq x k h_x p0 p1 p2) hK
 refine ⟨⟨show (2 : Nat) ≤ 67 by decide, show (2 : Nat) ≤ 1000000 by decide⟩, ann18, (L18 x k), (.dat TInt), (loopsN1 (i0 := 0) (by kernel_rfl) ?_), ?_⟩
 ·clear h
  intro m_ s_ K_ h
  obtain ⟨hc0, i0, v0, rfl, hl0, rfl, hv0, h⟩ := (show LP18_0 x k m_ s_ K_ from h)
  rw [lvc18_0 x k i0 v0 _ K_]
  exact (loopE_step (t := TStep) hl0 h (fun ht0 h => ⟨hl0, ⟨ht0, (ok_cond h (fun b_31 h => (ok_ret h :)) (fun b_31 h => ⟨hl0, ⟨ht0, (ok_cond h (fun b_32 h => (ok_ret h :)) (fun b_32 h => ⟨hl0, ⟨ht0, (ok_cond h (fun b_33 h => (ok_ret h :)) (fun b_33 h => ⟨hl0, ⟨ht0, (ok_cond h (fun b_34 h => (ok_ret h :)) (fun b_34 h => ⟨hl0, ⟨ht0, ⟨(sm_nth h_x i0).2.2.2.2.1, ⟨(ok_guard h).1, have h := (ok_guard h).2; ⟨(ok_guard h).1, have h := (ok_guard h).2; ⟨(ok_guard h).1, have h := (ok_guard h).2; (ok_cond h (fun b_38 h => (ok_ret h :)) (fun b_38 h => ⟨hl0, ⟨ht0, ⟨(sm_nth h_x i0).2.2.2.2.2.1, ⟨(ok_guard h).1, have h := (ok_guard h).2; ⟨(ok_guard h).1, have h := (ok_guard h).2; ⟨(ok_guard h).1, have h := (ok_guard h).2; (ok_cond h (fun b_42 h => (ok_ret h :)) (fun b_42 h => (loopE_next (t := TStep) (fun m hm => (show LP18_0 x k m _ _ from ⟨hc0, hm⟩)) (((wrap64 (wrap64 (wrap64 (wrap64 (v0 + Z1) + Z1) + Z1) + Z1)) + (M.count TPS ((((((nS x i0).2).2).2).2).1) : Int)) + (M.count (Ty.sl TInt) (((((((nS x i0).2).2).2).2).2).1) : Int)) rfl hl0 ht0 (sm_len h_x) trivial (ok_ret h :))))⟩⟩⟩⟩⟩⟩))⟩⟩⟩⟩⟩⟩))⟩⟩))⟩⟩))⟩⟩))⟩⟩) (fun h => (h trivial)))
 ·rw [vc18 x k K]
  exact (loopE_start (t := TStep) (fun m hm => ⟨trivial, hm⟩) k rfl trivial (ok_then h (fun v0 h hv0 => (ok_ret h :)) (fun q0 h => (ok_ret h :))))
def c50 : Con := ⟨[.dat TGuard, .dat TInt], fun args hp K => args2 (fun a0 a1 => withD TGuard a0 fun x => withD TInt a1 fun left => (Ln TGuard x) ∧ (0 ≤ left) ∧ (left ≤ 1048576) ∧ K (dI (M.szGuard x left)) []) args hp, .plain⟩
def cons50 : Cons := [(80, c80)]
@[reducible] def C50 : Ctx := ⟨tab, fun t => memN t cmps, cons50, 12, [], 0, false⟩
theorem consOk50 : ConsOk P C50 := by
 refine consOk_cons (enter_ok (fn := f80) func80 (by kernel_rfl) rfl) con80_ok ?_
 exact consOk_nil
def ann50 : Nat → List Dir
 | 0 => [.fixRow 2 TGuard, .keep [1, 2]]
 | 1 => [.keep [1]]
 | 2 => [.keep [1, 10]]
 | 3 => [.keep [4]]
 | 4 => [.keep [4]]
 | _ => []
def L50 (x : (TGuard).D) (left : Int) : Loops := fun id m st_ K => match id with
 | _ => False
theorem vc50 (x : (TGuard).D) (left : Int) (K : KA) : awp C50 (L50 x left) ann50 (bodyOf f50) ⟨argEnv 0 [.data TGuard x, dI left], []⟩ (outK tab false f50.results.toList (hasBox []) (resK (.dat TInt) K)) =
 ((Ln TPS x.2.1) ∧ (0 ≤ left) ∧ (left ≤ 1048576) ∧ cond (decide ((M.szS M.szPart x.2.1 left) < Z0)) (K (dI (-1 : Int)) []) (K (dI (M.szS M.szPart x.2.1 left)) [])) := by kernel_rfl
theorem con50_ok : ConOk P 50 c50 := by
 refine con_okR (fn := f50) (code := bodyOf f50) (tab_ok tab_check cmp_check) consOk50 mixed func50 rfl rfl fun args hp K h0 => ?_
 obtain ⟨a0, a1, rfl, rfl, h1⟩ := args2_elim h0
 obtain ⟨x, rfl, h2⟩ := withD_elim h1
 obtain ⟨left, rfl, h3⟩ := withD_elim h2
 obtain ⟨h_x, p0, p1, hK⟩ := h3
 have h : ok (F.laws_szGuard x left) (fun r => K (dI r) []) := ok_of_eq (F.laws_szGuard_eq x left h_x p0 p1) hK
 refine ⟨⟨show (2 : Nat) ≤ 12 by decide, show (2 : Nat) ≤ 1000000 by decide⟩, ann50, (L50 x left), (.dat TInt), (no_loops (by kernel_rfl)), ?_⟩
 ·rw [vc50 x left K]
  exact ⟨h_x.2.1, ⟨p0, ⟨p1, (ok_cond h (fun b_1 h => (ok_ret h :)) (fun b_1 h => (ok_ret h :)))⟩⟩⟩
def c19 : Con := ⟨[.dat TGS, .dat TInt], fun args hp K => args2 (fun a0 a1 => withD TGS a0 fun x => withD TInt a1 fun left => (Ln TGS x) ∧ (0 ≤ left) ∧ (left ≤ 1048576) ∧ K (dI (M.szS M.szGuard x left)) []) args hp, .plain⟩
def cons19 : Cons := [(50, c50)]
@[reducible] def C19 : Ctx := ⟨tab, fun t => memN t cmps, cons19, 27, [], 0, false⟩
theorem consOk19 : ConsOk P C19 := by
 refine consOk_cons (enter_ok (fn := f50) func50 (by kernel_rfl) rfl) con50_ok ?_
 exact consOk_nil
def ann19 : Nat → List Dir
 | 0 => [.keep [0, 1]]
 | 1 => [.keep [0, 1]]
 | 2 => [.keep [0, 1, 11]]
 | 3 => [.keep [4]]
 | 4 => [.keep [0, 1, 5]]
 | 5 => [.keep [0, 1, 5, 15]]
 | 6 => [.keep [0, 1, 5]]
 | 7 => [.keep [0, 1, 5]]
 | 8 => [.keep [0, 1, 5, 25]]
 | 9 => [.keep [4]]
 | 10 => [.keep [4]]
 | 100000 => [.keep [1]]
 | _ => []
@[reducible] def LP19_0 (x : LG) (left : Int) (m : Nat) (st_ : St) (K : KX) : Prop := (True) ∧ LoopE (t := TGuard) (fun (i0 : Int) (v0 : Int) => (⟨[(0, .data TGS x), (1, dI v0), (5, dI i0)], []⟩ : St)) x (F.laws_szGuardS_l0 x left) (fun v0 : Int => True) (outD (fun v0 : Int => True → K (.exit 0) (⟨[(1, dI v0)], []⟩ : St)) (fun q0 : Unit => K .ret (⟨[(4, dI (-1 : Int))], []⟩ : St))) m st_
def L19 (x : LG) (left : Int) : Loops := fun id m st_ K => match id with
 | 0 => LP19_0 x left m st_ K
 | _ => False
theorem vc19 (x : LG) (left : Int) (K : KA) : awp C19 (L19 x left) ann19 (bodyOf f19) ⟨argEnv 0 [.data TGS x, dI left], []⟩ (outK tab false f19.results.toList (hasBox []) (resK (.dat TInt) K)) =
 (cond (decide (wrap64 (left - (x.length : Int)) < Z0)) (K (dI (-1 : Int)) []) ((∃ m_, (True) ∧ LoopE (t := TGuard) (fun (i0 : Int) (v0 : Int) => (⟨[(0, .data TGS x), (1, dI v0), (5, dI i0)], []⟩ : St)) x (F.laws_szGuardS_l0 x left) (fun v0 : Int => True) (outD (fun v0 : Int => True → K (dI v0) []) (fun q0 : Unit => K (dI (-1 : Int)) [])) m_ (⟨[(0, .data TGS x), (1, dI (wrap64 (left - (x.length : Int)))), (5, dI Z0)], []⟩ : St)))) := by kernel_rfl
theorem lvc19_0 (x : LG) (left : Int)  (i0 : Int) (v0 : Int) (m : Nat) (K : KX) : awp C19 (L19 x left) ann19 (loopAt (bodyOf f19) 0) (⟨[(0, .data TGS x), (1, dI v0), (5, dI i0)], []⟩ : St) (thenW (fun s' => ∃ m', m' < m ∧ (L19 x left) 0 m' s' K) (exitN 0 (ann19 (behind 0)) K)) =
 (cond (decide (i0 < (x.length : Int))) ((0 ≤ i0) ∧ (i0 < (x.length : Int)) ∧ (Ln TGuard (nG x i0)) ∧ (0 ≤ v0) ∧ (v0 ≤ 1048576) ∧ cond (decide ((M.szGuard (nG x i0) v0) < Z0)) (K .ret (⟨[(4, dI (-1 : Int))], []⟩ : St)) ((∃ m_, m_ < m ∧ (L19 x left) 0 m_ (⟨[(0, .data TGS x), (1, dI (M.szGuard (nG x i0) v0)), (5, dI (wrap64 (i0 + Z1)))], []⟩ : St) K))) (K (.exit 0) (⟨[(1, dI v0)], []⟩ : St))) := by kernel_rfl
theorem con19_ok : ConOk P 19 c19 := by
 refine con_okR (fn := f19) (code := bodyOf f19) (tab_ok tab_check cmp_check) consOk19 mixed func19 rfl rfl fun args hp K h0 => ?_
 obtain ⟨a0, a1, rfl, rfl, h1⟩ := args2_elim h0
 obtain ⟨x, rfl, h2⟩ := withD_elim h1
 obtain ⟨left, rfl, h3⟩ := withD_elim h2
 obtain ⟨h_x, p0, p1, hK⟩ := h3
 have h : ok (F.laws_szGuardS x left) (fun r => K (dI r) []) := ok_of_eq (F.laws_szGuardS_eq x left h_x p0 p1) hK
 refine ⟨⟨show (2 : Nat) ≤ 27 by decide, show (2 : Nat) ≤ 1000000 by decide⟩, ann19, (L19 x left), (.dat TInt), (loopsN1 (i0 := 0) (by kernel_rfl) ?_), ?_⟩
 ·clear h
  intro m_ s_ K_ h
  obtain ⟨hc0, i0, v0, rfl, hl0, rfl, hv0, h⟩ := (show LP19_0 x left m_ s_ K_ from h)
  rw [lvc19_0 x left i0 v0 _ K_]
  exact (loopE_step (t := TGuard) hl0 h (fun ht0 h => ⟨hl0, ⟨ht0, ⟨(sm_nth h_x i0), ⟨(ok_guard h).1, have h := (ok_guard h).2; ⟨(ok_guard h).1, have h := (ok_guard h).2; (ok_cond h (fun b_16 h => (ok_ret h :)) (fun b_16 h => (loopE_next (t := TGuard) (fun m hm => (show LP19_0 x left m _ _ from ⟨hc0, hm⟩)) (M.szGuard (nG x i0) v0) rfl hl0 ht0 (sm_len h_x) trivial (ok_ret h :))))⟩⟩⟩⟩⟩) (fun h => (h trivial)))
 ·rw [vc19 x left K]
  exact (ok_cond h (fun b_1 h => (ok_ret h :)) (fun b_1 h => (loopE_start (t := TGuard) (fun m hm => ⟨trivial, hm⟩) (wrap64 (left - (x.length : Int))) rfl trivial (ok_then h (fun v0 h hv0 => (ok_ret h :)) (fun q0 h => (ok_ret h :))))))
def cons54 : Cons := [(85, c85)]
@[reducible] def C54 : Ctx := ⟨tab, fun t => memN t cmps, cons54, 12, [], 200000, true⟩
theorem consOk54 : ConsOk P C54 := by
 refine consOk_cons (enter_ok (fn := f85) func85 (by kernel_rfl) rfl) con85_ok ?_
 exact consOk_nil
def T54 : Inl := inlT C54 (fun _ => []) (bodyOf f54) f54.results.toList
theorem inlOk54 : InlOk P 54 T54 := inl_ok (fn := f54) (code := bodyOf f54) (tab_ok tab_check cmp_check) consOk54 mixed func54 rfl rfl (by kernel_rfl)
def c21 : Con := ⟨[.dat TGS], fun args hp K => args1 (fun a0 => withD TGS a0 fun x => (Sm TGS x) ∧ (∀ r : LG, r = (x) → K (.own 0 none) [(0, .arr true TGuard r)])) args hp, .plain⟩
def cons21 : Cons := []
@[reducible] def C21 : Ctx := ⟨tab, fun t => memN t cmps, cons21, 23, [(54, T54)], 0, true⟩
theorem consOk21 : ConsOk P C21 := by
 refine consOk_inl (enter_ok (fn := f54) func54 (by kernel_rfl) rfl) inlOk54 ?_
 exact consOk_nil
def ann21 : Nat → List Dir
 | 0 => [.keep [0]]
 | 1 => [.keep [0, 3]]
 | 2 => [.keep [0, 3, 4]]
 | 3 => [.keep [0, 3, 4, 11]]
 | 4 => [.keep [0, 3, 4]]
 | 5 => [.keep [0, 3, 4]]
 | 6 => [.keep [2]]
 | 100000 => [.keep [3]]
 | _ => []
@[reducible] def LP21_0 (x : LG) (m : Nat) (st_ : St) (K : KX) : Prop := (True) ∧ LoopI (fun (i0 : Int) (v0 : LG) => (⟨[(0, .data TGS x), (3, .own 7 none), (4, dI i0)], [(7, .arr true TGuard v0)]⟩ : St)) Z0 (x.length : Int) (F.laws_toGuardS_l0 x) (fun v0 : LG => True) (outD (fun v0 : LG => True → K (.exit 0) (⟨[(3, .own 7 none)], [(7, .arr true TGuard v0)]⟩ : St)) (fun _ => False)) m st_
def L21 (x : LG) : Loops := fun id m st_ K => match id with
 | 0 => LP21_0 x m st_ K
 | _ => False
theorem vc21 (x : LG) (K : KA) : awp C21 (L21 x) ann21 (bodyOf f21) ⟨argEnv 0 [.data TGS x], []⟩ (outK tab true f21.results.toList (hasBox []) (resK .raw K)) =
 (((x.length : Int) = (x.length : Int)) ∧ (0 ≤ (x.length : Int)) ∧ ((x.length : Int) * 32 ≤ (lim : Int)) ∧ (∃ m_, (True) ∧ LoopI (fun (i0 : Int) (v0 : LG) => (⟨[(0, .data TGS x), (3, .own 7 none), (4, dI i0)], [(7, .arr true TGuard v0)]⟩ : St)) Z0 (x.length : Int) (F.laws_toGuardS_l0 x) (fun v0 : LG => True) (outD (fun v0 : LG => True → K (.own 0 none) [(0, .arr true TGuard v0)]) (fun _ => False)) m_ (⟨[(0, .data TGS x), (3, .own 7 none), (4, dI Z0)], [(7, .arr true TGuard (List.replicate (x.length : Int).toNat (Z0, ([], ()))))]⟩ : St))) := by kernel_rfl
theorem lvc21_0 (x : LG)  (i0 : Int) (v0 : LG) (m : Nat) (K : KX) : awp C21 (L21 x) ann21 (loopAt (bodyOf f21) 0) (⟨[(0, .data TGS x), (3, .own 7 none), (4, dI i0)], [(7, .arr true TGuard v0)]⟩ : St) (thenW (fun s' => ∃ m', m' < m ∧ (L21 x) 0 m' s' K) (exitN 0 (ann21 (behind 0)) K)) =
 (cond (decide (i0 < (x.length : Int))) ((0 ≤ i0) ∧ (i0 < (x.length : Int)) ∧ (Sm TPS (((nG x i0).2).1)) ∧ (∀ r_1003_2 : LPt, r_1003_2 = ((((nG x i0).2).1)) → (0 ≤ i0) ∧ (i0 < (v0.length : Int)) ∧ (∃ m_, m_ < m ∧ (L21 x) 0 m_ (⟨[(0, .data TGS x), (3, .own 7 none), (4, dI (wrap64 (i0 + Z1)))], [(7, .arr true TGuard (v0.set i0.toNat ((nG x i0).1, (r_1003_2, ()))))]⟩ : St) K))) (K (.exit 0) (⟨[(3, .own 7 none)], [(7, .arr true TGuard v0)]⟩ : St))) := by kernel_rfl
theorem con21_ok : ConOk P 21 c21 := by
 refine con_okR (fn := f21) (code := bodyOf f21) (tab_ok tab_check cmp_check) consOk21 mixed func21 rfl rfl fun args hp K h0 => ?_
 obtain ⟨a0, rfl, rfl, h1⟩ := args1_elim h0
 obtain ⟨x, rfl, h2⟩ := withD_elim h1
 obtain ⟨h_x, hK⟩ := h2
 have h : ok (F.laws_toGuardS x) (fun r => K (.own 0 none) [(0, .arr true TGuard r)]) := ok_of_eq (F.laws_toGuardS_eq x h_x) (hK _ rfl)
 refine ⟨⟨show (1 : Nat) ≤ 23 by decide, show (1 : Nat) ≤ 1000000 by decide⟩, ann21, (L21 x), .raw, (loopsN1 (i0 := 0) (by kernel_rfl) ?_), ?_⟩
 ·clear h
  intro m_ s_ K_ h
  obtain ⟨hc0, i0, v0, rfl, hl0, rfl, hv0, h⟩ := (show LP21_0 x m_ s_ K_ from h)
  rw [lvc21_0 x i0 v0 _ K_]
  exact (loopI_step h (fun ht0 h => ⟨hl0, ⟨ht0, ⟨(sm_nth h_x i0).2.1, (fun r_1003_2 e_r_1003_2 => have h := ok_let h r_1003_2 e_r_1003_2; ⟨hl0, ⟨(ok_guard h).1, have h := (ok_guard h).2; (loopI_next (fun m hm => (show LP21_0 x m _ _ from ⟨hc0, hm⟩)) (v0.set i0.toNat ((nG x i0).1, (r_1003_2, ()))) rfl hl0 low0 ht0 (sm_len h_x) trivial (ok_ret h :))⟩⟩)⟩⟩⟩) (fun h => (h trivial)))
 ·rw [vc21 x K]
  exact ⟨rfl, ⟨(Int.natCast_nonneg _), ⟨(sm_limI h_x rfl), (loopI_start (fun m hm => ⟨trivial, hm⟩) Z0 (List.replicate (x.length : Int).toNat (Z0, ([], ()))) rfl (Int.natCast_nonneg 0) trivial (ok_then h (fun v0 h hv0 => (ok_ret h :)) (fun _ h => h.elim)))⟩⟩⟩
def c60 : Con := ⟨[.dat TGuard, .dat TGuard], fun args hp K => args2 (fun a0 a1 => withD TGuard a0 fun x => withD TGuard a1 fun y => (Sm TGuard x) ∧ (Sm TGuard y) ∧ (x = y) ∧ K (dB (true)) []) args hp, .plain⟩
def cons60 : Cons := [(91, c91)]
@[reducible] def C60 : Ctx := ⟨tab, fun t => memN t cmps, cons60, 16, [], 0, false⟩
theorem consOk60 : ConsOk P C60 := by
 refine consOk_cons (enter_ok (fn := f91) func91 (by kernel_rfl) rfl) con91_ok ?_
 exact consOk_nil
def ann60 : Nat → List Dir
 | 0 => [.fixRow 2 TGuard, .fixRow 3 TGuard, .keep [2, 3]]
 | 1 => [.keep [2, 3, 9]]
 | 2 => [.keep [4]]
 | 3 => [.keep [15]]
 | 4 => [.keep [4]]
 | 5 => [.keep [4]]
 | _ => []
def L60 (x : (TGuard).D) (y : (TGuard).D) : Loops := fun id m st_ K => match id with
 | _ => False
theorem vc60 (x : (TGuard).D) (y : (TGuard).D) (K : KA) : awp C60 (L60 x y) ann60 (bodyOf f60) ⟨argEnv 0 [.data TGuard x, .data TGuard y], []⟩ (outK tab false f60.results.toList (hasBox []) (resK (.dat Ty.bool) K)) =
 (cond (!decide (x.1 = y.1)) (K (dB false) []) ((Sm TPS x.2.1) ∧ (Sm TPS y.2.1) ∧ (x.2.1 = y.2.1) ∧ cond (!(true)) (K (dB false) []) (K (dB true) []))) := by kernel_rfl
theorem con60_ok : ConOk P 60 c60 := by
 refine con_okR (fn := f60) (code := bodyOf f60) (tab_ok tab_check cmp_check) consOk60 mixed func60 rfl rfl fun args hp K h0 => ?_
 obtain ⟨a0, a1, rfl, rfl, h1⟩ := args2_elim h0
 obtain ⟨x, rfl, h2⟩ := withD_elim h1
 obtain ⟨y, rfl, h3⟩ := withD_elim h2
 obtain ⟨h_x, h_y, p0, hK⟩ := h3
 have h : ok (F.laws_eqGuard x y) (fun r => K (dB r) []) := ok_of_eq (F.laws_eqGuard_eq x y h_x h_y p0) hK
 refine ⟨⟨show (2 : Nat) ≤ 16 by decide, show (2 : Nat) ≤ 1000000 by decide⟩, ann60, (L60 x y), (.dat Ty.bool), (no_loops (by kernel_rfl)), ?_⟩
 ·rw [vc60 x y K]
  exact (ok_cond h (fun b_1 h => (ok_ret h :)) (fun b_1 h => ⟨h_x.2.1, ⟨h_y.2.1, ⟨(ok_guard h).1, have h := (ok_guard h).2; (ok_cond h (fun b_3 h => (ok_ret h :)) (fun b_3 h => (ok_ret h :)))⟩⟩⟩))
def c23 : Con := ⟨[.dat TGS, .dat TGS], fun args hp K => args2 (fun a0 a1 => withD TGS a0 fun x => withD TGS a1 fun y => (Sm TGS x) ∧ (Sm TGS y) ∧ (x = y) ∧ K (dB (true)) []) args hp, .bor⟩
def cons23 : Cons := [(60, c60)]
@[reducible] def C23 : Ctx := ⟨tab, fun t => memN t cmps, cons23, 27, [], 0, false⟩
theorem consOk23 : ConsOk P C23 := by
 refine consOk_cons (enter_ok (fn := f60) func60 (by kernel_rfl) rfl) con60_ok ?_
 exact consOk_nil
def ann23 : Nat → List Dir
 | 0 => [.keep [0, 1]]
 | 1 => [.keep [0, 1, 10]]
 | 2 => [.keep [4]]
 | 3 => [.keep [0, 1, 5]]
 | 4 => [.keep [0, 1, 5, 14]]
 | 5 => [.keep [0, 1, 5]]
 | 6 => [.keep [0, 1, 5, 26]]
 | 7 => [.keep [4]]
 | 8 => [.keep [4]]
 | 100000 => [.keep []]
 | _ => []
@[reducible] def LP23_0 (x : LG) (y : LG) (m : Nat) (st_ : St) (K : KX) : Prop := (True) ∧ LoopI (fun (i0 : Int) (v0 : Unit) => (⟨[(0, .data TGS x), (1, .data TGS y), (5, dI i0)], []⟩ : St)) Z0 (x.length : Int) (F.laws_eqGuardS_l0 x y) (fun v0 : Unit => True) (outD (fun v0 : Unit => True → K (.exit 0) (⟨[], []⟩ : St)) (fun q0 : Unit => K .ret (⟨[(4, dB false)], []⟩ : St))) m st_
def L23 (x : LG) (y : LG) : Loops := fun id m st_ K => match id with
 | 0 => LP23_0 x y m st_ K
 | _ => False
theorem vc23 (x : LG) (y : LG) (K : KA) : awp C23 (L23 x y) ann23 (bodyOf f23) ⟨argEnv 0 [.data TGS x, .data TGS y], []⟩ (outK tab false f23.results.toList (hasBox []) (resK (.dat Ty.bool) K)) =
 (cond (!decide ((x.length : Int) = (y.length : Int))) (K (dB false) []) ((∃ m_, (True) ∧ LoopI (fun (i0 : Int) (v0 : Unit) => (⟨[(0, .data TGS x), (1, .data TGS y), (5, dI i0)], []⟩ : St)) Z0 (x.length : Int) (F.laws_eqGuardS_l0 x y) (fun v0 : Unit => True) (outD (fun v0 : Unit => True → K (dB true) []) (fun q0 : Unit => K (dB false) [])) m_ (⟨[(0, .data TGS x), (1, .data TGS y), (5, dI Z0)], []⟩ : St)))) := by kernel_rfl
theorem lvc23_0 (x : LG) (y : LG)  (i0 : Int) (v0 : Unit) (m : Nat) (K : KX) : awp C23 (L23 x y) ann23 (loopAt (bodyOf f23) 0) (⟨[(0, .data TGS x), (1, .data TGS y), (5, dI i0)], []⟩ : St) (thenW (fun s' => ∃ m', m' < m ∧ (L23 x y) 0 m' s' K) (exitN 0 (ann23 (behind 0)) K)) =
 (cond (decide (i0 < (x.length : Int))) ((0 ≤ i0) ∧ (i0 < (x.length : Int)) ∧ (0 ≤ i0) ∧ (i0 < (y.length : Int)) ∧ (Sm TGuard (nG x i0)) ∧ (Sm TGuard (nG y i0)) ∧ ((nG x i0) = (nG y i0)) ∧ cond (!(true)) (K .ret (⟨[(4, dB false)], []⟩ : St)) ((∃ m_, m_ < m ∧ (L23 x y) 0 m_ (⟨[(0, .data TGS x), (1, .data TGS y), (5, dI (wrap64 (i0 + Z1)))], []⟩ : St) K))) (K (.exit 0) (⟨[], []⟩ : St))) := by kernel_rfl
theorem con23_ok : ConOk P 23 c23 := by
 refine con_okR (fn := f23) (code := bodyOf f23) (tab_ok tab_check cmp_check) consOk23 mixed func23 rfl rfl fun args hp K h0 => ?_
 obtain ⟨a0, a1, rfl, rfl, h1⟩ := args2_elim h0
 obtain ⟨x, rfl, h2⟩ := withD_elim h1
 obtain ⟨y, rfl, h3⟩ := withD_elim h2
 obtain ⟨h_x, h_y, p0, hK⟩ := h3
 have h : ok (F.laws_eqGuardS x y) (fun r => K (dB r) []) := ok_of_eq (F.laws_eqGuardS_eq x y h_x h_y p0) hK
 refine ⟨⟨show (2 : Nat) ≤ 27 by decide, show (2 : Nat) ≤ 1000000 by decide⟩, ann23, (L23 x y), (.dat Ty.bool), (loopsN1 (i0 := 0) (by kernel_rfl) ?_), ?_⟩
 ·clear h
  intro m_ s_ K_ h
  obtain ⟨hc0, i0, v0, rfl, hl0, rfl, hv0, h⟩ := (show LP23_0 x y m_ s_ K_ from h)
  rw [lvc23_0 x y i0 v0 _ K_]
  exact (loopI_step h (fun ht0 h => ⟨hl0, ⟨ht0, ⟨hl0, ⟨(ok_guard h).1, have h := (ok_guard h).2; ⟨(sm_nth h_x i0), ⟨(sm_nth h_y i0), ⟨(ok_guard h).1, have h := (ok_guard h).2; (ok_cond h (fun b_16 h => (ok_ret h :)) (fun b_16 h => (loopI_next (fun m hm => (show LP23_0 x y m _ _ from ⟨hc0, hm⟩)) () rfl hl0 low0 ht0 (sm_len h_x) trivial (ok_ret h :))))⟩⟩⟩⟩⟩⟩⟩) (fun h => (h trivial)))
 ·rw [vc23 x y K]
  exact (ok_cond h (fun b_1 h => (ok_ret h :)) (fun b_1 h => (loopI_start (fun m hm => ⟨trivial, hm⟩) Z0 () rfl (Int.natCast_nonneg 0) trivial (ok_then h (fun v0 h hv0 => (ok_ret h :)) (fun q0 h => (ok_ret h :))))))
def c24 : Con := ⟨[.dat TInt], fun args hp K => hpN 1000000 true TGuard (fun x => args2 (fun a0 a1 => withC 1000000 (x.length : Int) a0 (withD TInt a1 fun k => (Ln TGS x) ∧ (0 ≤ k) ∧ (k + (M.count TGS x : Int) ≤ M.big) ∧ (∀ r : LG × Int, r = ((M.mark TGS x k, k + (M.count TGS x : Int))) → K (dI r.2) [(1000000, .arr true TGuard r.1)]))) args []) hp, .io⟩
def cons24 : Cons := [(46, c46)]
@[reducible] def C24 : Ctx := ⟨tab, fun t => memN t cmps, cons24, 27, [], 0, false⟩
theorem consOk24 : ConsOk P C24 := by
 refine consOk_cons (enter_ok (fn := f46) func46 (by kernel_rfl) rfl) con46_ok ?_
 exact consOk_nil
def ann24 : Nat → List Dir
 | 0 => [.keep [0, 1]]
 | 1 => [.keep [0, 1, 5]]
 | 2 => [.keep [0, 1, 5, 9]]
 | 3 => [.keep [0, 1, 5]]
 | 4 => [.keep [0, 1, 5]]
 | 5 => [.keep [0, 1, 5]]
 | 6 => [.keep [0, 1, 5]]
 | 7 => [.keep [4]]
 | 100000 => [.keep [1]]
 | _ => []
@[reducible] def LP24_0 (x : LG) (k : Int) (m : Nat) (st_ : St) (K : KX) : Prop := (True) ∧ LoopI (fun (i0 : Int) (v0 : Int × LG) => (⟨[(0, .clp 1000000 (x.length : Int)), (1, dI v0.1), (5, dI i0)], [(1000000, .arr true TGuard v0.2)]⟩ : St)) Z0 (x.length : Int) (F.laws_markGuardS_l0 x k) (fun v0 : Int × LG => True) (outD (fun v0 : Int × LG => True → K (.exit 0) (⟨[(1, dI v0.1)], [(1000000, .arr true TGuard v0.2)]⟩ : St)) (fun _ => False)) m st_
def L24 (x : LG) (k : Int) : Loops := fun id m st_ K => match id with
 | 0 => LP24_0 x k m st_ K
 | _ => False
theorem vc24 (x : LG) (k : Int) (K : KA) : awp C24 (L24 x k) ann24 (bodyOf f24) ⟨argEnv 0 [.clp 1000000 (x.length : Int), dI k], [(1000000, .arr true TGuard x)]⟩ (outK tab false f24.results.toList (hasBox [(1000000, .arr true TGuard x)]) (resK .raw K)) =
 ((∃ m_, (True) ∧ LoopI (fun (i0 : Int) (v0 : Int × LG) => (⟨[(0, .clp 1000000 (x.length : Int)), (1, dI v0.1), (5, dI i0)], [(1000000, .arr true TGuard v0.2)]⟩ : St)) Z0 (x.length : Int) (F.laws_markGuardS_l0 x k) (fun v0 : Int × LG => True) (outD (fun v0 : Int × LG => True → K (dI v0.1) [(1000000, .arr true TGuard v0.2)]) (fun _ => False)) m_ (⟨[(0, .clp 1000000 (x.length : Int)), (1, dI k), (5, dI Z0)], [(1000000, .arr true TGuard x)]⟩ : St))) := by kernel_rfl
theorem lvc24_0 (x : LG) (k : Int)  (i0 : Int) (v0 : Int × LG) (m : Nat) (K : KX) : awp C24 (L24 x k) ann24 (loopAt (bodyOf f24) 0) (⟨[(0, .clp 1000000 (x.length : Int)), (1, dI v0.1), (5, dI i0)], [(1000000, .arr true TGuard v0.2)]⟩ : St) (thenW (fun s' => ∃ m', m' < m ∧ (L24 x k) 0 m' s' K) (exitN 0 (ann24 (behind 0)) K)) =
 (cond (decide (i0 < (x.length : Int))) ((0 ≤ i0) ∧ (i0 < (x.length : Int)) ∧ (0 ≤ i0) ∧ (i0 < (x.length : Int)) ∧ (((((nG (v0.2.set i0.toNat (v0.1, (nG v0.2 i0).2)) i0).2).1).length : Int) = ((((nG (v0.2.set i0.toNat (v0.1, (nG v0.2 i0).2)) i0).2).1).length : Int)) ∧ (Ln TPS (((nG (v0.2.set i0.toNat (v0.1, (nG v0.2 i0).2)) i0).2).1)) ∧ (0 ≤ (wrap64 (v0.1 + Z1))) ∧ ((wrap64 (v0.1 + Z1)) + (M.count TPS (((nG (v0.2.set i0.toNat (v0.1, (nG v0.2 i0).2)) i0).2).1) : Int) ≤ M.big) ∧ (∀ r_6_6 : LPt × Int, r_6_6 = ((M.mark TPS (((nG (v0.2.set i0.toNat (v0.1, (nG v0.2 i0).2)) i0).2).1) (wrap64 (v0.1 + Z1)), (wrap64 (v0.1 + Z1)) + (M.count TPS (((nG (v0.2.set i0.toNat (v0.1, (nG v0.2 i0).2)) i0).2).1) : Int))) → (r_6_6.1.length = (((nG (v0.2.set i0.toNat (v0.1, (nG v0.2 i0).2)) i0).2).1).length) ∧ (∃ m_, m_ < m ∧ (L24 x k) 0 m_ (⟨[(0, .clp 1000000 (x.length : Int)), (1, dI r_6_6.2), (5, dI (wrap64 (i0 + Z1)))], [(1000000, .arr true TGuard ((v0.2.set i0.toNat (v0.1, (nG v0.2 i0).2)).set i0.toNat ((nG (v0.2.set i0.toNat (v0.1, (nG v0.2 i0).2)) i0).1, (r_6_6.1, ()))))]⟩ : St) K))) (K (.exit 0) (⟨[(1, dI v0.1)], [(1000000, .arr true TGuard v0.2)]⟩ : St))) := by kernel_rfl
theorem con24_ok : ConOk P 24 c24 := by
 refine con_okR (fn := f24) (code := bodyOf f24) (tab_ok tab_check cmp_check) consOk24 mixed func24 rfl rfl fun args hp K h0 => ?_
 unfold c24 at h0
 dsimp only at h0
 obtain ⟨x, rfl, h00⟩ := hpN_elim (n := 1000000) (d := true) (t := TGuard) h0
 obtain ⟨a0, a1, rfl, _, h1⟩ := args2_elim h00
 obtain ⟨rfl, h2⟩ := withC_elim h1
 obtain ⟨k, rfl, h3⟩ := withD_elim h2
 obtain ⟨h_x, p0, p1, hK⟩ := h3
 have h : ok (F.laws_markGuardS x k) (fun r => K (dI r.2) [(1000000, .arr true TGuard r.1)]) := ok_of_eq (F.laws_markGuardS_eq x k h_x p0 p1) (hK _ rfl)
 refine ⟨⟨show (2 : Nat) ≤ 27 by decide, show (2 : Nat) ≤ 1000000 by decide⟩, ann24, (L24 x k), .raw, (loopsN1 (i0 := 0) (by kernel_rfl) ?_), ?_⟩
 ·clear h
  intro m_ s_ K_ h
  obtain ⟨hc0, i0, v0, rfl, hl0, rfl, hv0, h⟩ := (show LP24_0 x k m_ s_ K_ from h)
  rw [lvc24_0 x k i0 v0 _ K_]
  exact (loopI_step h (fun ht0 h => ⟨hl0, ⟨ht0, ⟨hl0, ⟨ht0, ⟨rfl, ⟨(ok_guard h).1, have h := (ok_guard h).2; ⟨(ok_guard h).1, have h := (ok_guard h).2; ⟨(ok_guard h).1, have h := (ok_guard h).2; (fun r_6_6 e_r_6_6 => have h := ok_let h r_6_6 e_r_6_6; ⟨(by rw [e_r_6_6]; exact (M.mark_len TPart _ _)), (loopI_next (fun m hm => (show LP24_0 x k m _ _ from ⟨hc0, hm⟩)) (r_6_6.2, ((v0.2.set i0.toNat (v0.1, (nG v0.2 i0).2)).set i0.toNat ((nG (v0.2.set i0.toNat (v0.1, (nG v0.2 i0).2)) i0).1, (r_6_6.1, ())))) rfl hl0 low0 ht0 (sm_len h_x) trivial (ok_ret h :))⟩)⟩⟩⟩⟩⟩⟩⟩⟩) (fun h => (h trivial)))
 ·rw [vc24 x k K]
  exact (loopI_start (fun m hm => ⟨trivial, hm⟩) Z0 (k, x) rfl (Int.natCast_nonneg 0) trivial (ok_then h (fun v0 h hv0 => (ok_ret h :)) (fun _ h => h.elim)))
def c62 : Con := ⟨[.dat TInt, .dat TInt, .dat TInt], fun args hp K => args3 (fun a0 a1 a2 => withD TInt a0 fun n => withD TInt a1 fun low => withD TInt a2 fun high => K (dB (M.inR n low high)) []) args hp, .plain⟩
def cons62 : Cons := []
@[reducible] def C62 : Ctx := ⟨tab, fun t => memN t cmps, cons62, 15, [], 0, false⟩
theorem consOk62 : ConsOk P C62 := by
 exact consOk_nil
def ann62 : Nat → List Dir
 | 0 => [.keep [0, 1, 2]]
 | 1 => [.keep [6]]
 | _ => []
def L62 (n : Int) (low : Int) (high : Int) : Loops := fun id m st_ K => match id with
 | _ => False
theorem vc62 (n : Int) (low : Int) (high : Int) (K : KA) : awp C62 (L62 n low high) ann62 (bodyOf f62) ⟨argEnv 0 [dI n, dI low, dI high], []⟩ (outK tab false f62.results.toList (hasBox []) (resK (.dat Ty.bool) K)) =
 (cond ((decide (low ≤ n)) == true) (K (dB (decide (n ≤ high))) []) (K (dB false) [])) := by kernel_rfl
theorem con62_ok : ConOk P 62 c62 := by
 refine con_okR (fn := f62) (code := bodyOf f62) (tab_ok tab_check cmp_check) consOk62 mixed func62 rfl rfl fun args hp K h0 => ?_
 obtain ⟨a0, a1, a2, rfl, rfl, h1⟩ := args3_elim h0
 obtain ⟨n, rfl, h2⟩ := withD_elim h1
 obtain ⟨low, rfl, h3⟩ := withD_elim h2
 obtain ⟨high, rfl, h4⟩ := withD_elim h3
 have hK := h4
 have h : ok (F.spec_l1In n low high) (fun r => K (dB r) []) := ok_of_eq (F.spec_l1In_eq n low high) hK
 refine ⟨⟨show (3 : Nat) ≤ 15 by decide, show (3 : Nat) ≤ 1000000 by decide⟩, ann62, (L62 n low high), (.dat Ty.bool), (no_loops (by kernel_rfl)), ?_⟩
 ·rw [vc62 n low high K]
  exact (ok_cond h (fun b_1 h => (ok_ret h :)) (fun b_1 h => (ok_ret h :)))
def c126 : Con := ⟨[.dat TCS], fun args hp K => args1 (fun a0 => withD TCS a0 fun columns => (Sm TCS columns) ∧ K (dB (M.columnsOk columns)) []) args hp, .plain⟩
def cons126 : Cons := [(62, c62)]
@[reducible] def C126 : Ctx := ⟨tab, fun t => memN t cmps, cons126, 20, [], 0, false⟩
theorem consOk126 : ConsOk P C126 := by
 refine consOk_cons (enter_ok (fn := f62) func62 (by kernel_rfl) rfl) con62_ok ?_
 exact consOk_nil
def ann126 : Nat → List Dir
 | 0 => [.keep [0]]
 | 1 => [.keep [0, 3]]
 | 2 => [.keep [0, 3, 7]]
 | 3 => [.keep [0, 3]]
 | 4 => [.keep [0, 3, 16]]
 | 5 => [.keep [2]]
 | 6 => [.keep [2]]
 | 100000 => [.keep [0]]
 | _ => []
@[reducible] def LP126_0 (columns : LC) (m : Nat) (st_ : St) (K : KX) : Prop := (True) ∧ LoopE (t := TColumn) (fun (i0 : Int) (v0 : Unit) => (⟨[(0, .data TCS columns), (3, dI i0)], []⟩ : St)) columns (F.spec_ColumnsOk_l0 columns) (fun v0 : Unit => True) (outD (fun v0 : Unit => True → K (.exit 0) (⟨[(0, .data TCS columns)], []⟩ : St)) (fun q0 : Unit => K .ret (⟨[(2, dB false)], []⟩ : St))) m st_
def L126 (columns : LC) : Loops := fun id m st_ K => match id with
 | 0 => LP126_0 columns m st_ K
 | _ => False
theorem vc126 (columns : LC) (K : KA) : awp C126 (L126 columns) ann126 (bodyOf f126) ⟨argEnv 0 [.data TCS columns], []⟩ (outK tab false f126.results.toList (hasBox []) (resK (.dat Ty.bool) K)) =
 ((∃ m_, (True) ∧ LoopE (t := TColumn) (fun (i0 : Int) (v0 : Unit) => (⟨[(0, .data TCS columns), (3, dI i0)], []⟩ : St)) columns (F.spec_ColumnsOk_l0 columns) (fun v0 : Unit => True) (outD (fun v0 : Unit => True → K (dB (decide ((columns.length : Int) ≤ Z4))) []) (fun q0 : Unit => K (dB false) [])) m_ (⟨[(0, .data TCS columns), (3, dI Z0)], []⟩ : St))) := by kernel_rfl
theorem lvc126_0 (columns : LC)  (i0 : Int) (v0 : Unit) (m : Nat) (K : KX) : awp C126 (L126 columns) ann126 (loopAt (bodyOf f126) 0) (⟨[(0, .data TCS columns), (3, dI i0)], []⟩ : St) (thenW (fun s' => ∃ m', m' < m ∧ (L126 columns) 0 m' s' K) (exitN 0 (ann126 (behind 0)) K)) =
 (cond (decide (i0 < (columns.length : Int))) ((0 ≤ i0) ∧ (i0 < (columns.length : Int)) ∧ cond (!(M.inR ((nC columns i0).1) Z1 Z3)) (K .ret (⟨[(2, dB false)], []⟩ : St)) ((∃ m_, m_ < m ∧ (L126 columns) 0 m_ (⟨[(0, .data TCS columns), (3, dI (wrap64 (i0 + Z1)))], []⟩ : St) K))) (K (.exit 0) (⟨[(0, .data TCS columns)], []⟩ : St))) := by kernel_rfl
theorem con126_ok : ConOk P 126 c126 := by
 refine con_okR (fn := f126) (code := bodyOf f126) (tab_ok tab_check cmp_check) consOk126 mixed func126 rfl rfl fun args hp K h0 => ?_
 obtain ⟨a0, rfl, rfl, h1⟩ := args1_elim h0
 obtain ⟨columns, rfl, h2⟩ := withD_elim h1
 obtain ⟨h_columns, hK⟩ := h2
 have h : ok (F.spec_ColumnsOk columns) (fun r => K (dB r) []) := ok_of_eq (F.spec_ColumnsOk_eq columns h_columns) hK
 refine ⟨⟨show (1 : Nat) ≤ 20 by decide, show (1 : Nat) ≤ 1000000 by decide⟩, ann126, (L126 columns), (.dat Ty.bool), (loopsN1 (i0 := 0) (by kernel_rfl) ?_), ?_⟩
 ·clear h
  intro m_ s_ K_ h
  obtain ⟨hc0, i0, v0, rfl, hl0, rfl, hv0, h⟩ := (show LP126_0 columns m_ s_ K_ from h)
  rw [lvc126_0 columns i0 v0 _ K_]
  exact (loopE_step (t := TColumn) hl0 h (fun ht0 h => ⟨hl0, ⟨ht0, (ok_cond h (fun b_9 h => (ok_ret h :)) (fun b_9 h => (loopE_next (t := TColumn) (fun m hm => (show LP126_0 columns m _ _ from ⟨hc0, hm⟩)) () rfl hl0 ht0 (sm_len h_columns) trivial (ok_ret h :))))⟩⟩) (fun h => (h trivial)))
 ·rw [vc126 columns K]
  exact (loopE_start (t := TColumn) (fun m hm => ⟨trivial, hm⟩) () rfl trivial (ok_then h (fun v0 h hv0 => (ok_ret h :)) (fun q0 h => (ok_ret h :))))
def c192 : Con := ⟨[.dat Ty.str], fun args hp K => args1 (fun a0 => withD Ty.str a0 fun s => (Sm Ty.str s) ∧ K (dB (M.text s)) []) args hp, .plain⟩
def cons192 : Cons := []
@[reducible] def C192 : Ctx := ⟨tab, fun t => memN t cmps, cons192, 23, [], 0, false⟩
theorem consOk192 : ConsOk P C192 := by
 exact consOk_nil
def ann192 : Nat → List Dir
 | 0 => [.keep [0]]
 | 1 => [.keep [0, 3]]
 | 2 => [.keep [0, 3, 7]]
 | 3 => [.keep [0, 3]]
 | 4 => [.keep [0, 3, 19]]
 | 5 => [.keep [2]]
 | 6 => [.keep [2]]
 | 100000 => [.keep [0]]
 | _ => []
@[reducible] def LP192_0 (s : ByteArray) (m : Nat) (st_ : St) (K : KX) : Prop := (True) ∧ LoopI (fun (i0 : Int) (v0 : Unit) => (⟨[(0, .data Ty.str s), (3, dI i0)], []⟩ : St)) Z0 (s.size : Int) (F.spec_l1Text_l0 s) (fun v0 : Unit => True) (outD (fun v0 : Unit => True → K (.exit 0) (⟨[(0, .data Ty.str s)], []⟩ : St)) (fun q0 : Unit => K .ret (⟨[(2, dB false)], []⟩ : St))) m st_
def L192 (s : ByteArray) : Loops := fun id m st_ K => match id with
 | 0 => LP192_0 s m st_ K
 | _ => False
theorem vc192 (s : ByteArray) (K : KA) : awp C192 (L192 s) ann192 (bodyOf f192) ⟨argEnv 0 [.data Ty.str s], []⟩ (outK tab false f192.results.toList (hasBox []) (resK (.dat Ty.bool) K)) =
 ((∃ m_, (True) ∧ LoopI (fun (i0 : Int) (v0 : Unit) => (⟨[(0, .data Ty.str s), (3, dI i0)], []⟩ : St)) Z0 (s.size : Int) (F.spec_l1Text_l0 s) (fun v0 : Unit => True) (outD (fun v0 : Unit => True → K (dB (decide ((s.size : Int) ≤ Z6))) []) (fun q0 : Unit => K (dB false) [])) m_ (⟨[(0, .data Ty.str s), (3, dI Z0)], []⟩ : St))) := by kernel_rfl
theorem lvc192_0 (s : ByteArray)  (i0 : Int) (v0 : Unit) (m : Nat) (K : KX) : awp C192 (L192 s) ann192 (loopAt (bodyOf f192) 0) (⟨[(0, .data Ty.str s), (3, dI i0)], []⟩ : St) (thenW (fun s' => ∃ m', m' < m ∧ (L192 s) 0 m' s' K) (exitN 0 (ann192 (behind 0)) K)) =
 (cond (decide (i0 < (s.size : Int))) ((0 ≤ i0) ∧ (i0 < (s.size : Int)) ∧ cond ((decide (((s.get! i0.toNat).toNat : Int) < (97 : Int))) == false) ((0 ≤ i0) ∧ (i0 < (s.size : Int)) ∧ cond (decide ((122 : Int) < ((s.get! i0.toNat).toNat : Int))) (K .ret (⟨[(2, dB false)], []⟩ : St)) ((∃ m_, m_ < m ∧ (L192 s) 0 m_ (⟨[(0, .data Ty.str s), (3, dI (wrap64 (i0 + Z1)))], []⟩ : St) K))) (K .ret (⟨[(2, dB false)], []⟩ : St))) (K (.exit 0) (⟨[(0, .data Ty.str s)], []⟩ : St))) := by kernel_rfl
theorem con192_ok : ConOk P 192 c192 := by
 refine con_okR (fn := f192) (code := bodyOf f192) (tab_ok tab_check cmp_check) consOk192 mixed func192 rfl rfl fun args hp K h0 => ?_
 obtain ⟨a0, rfl, rfl, h1⟩ := args1_elim h0
 obtain ⟨s, rfl, h2⟩ := withD_elim h1
 obtain ⟨h_s, hK⟩ := h2
 have h : ok (F.spec_l1Text s) (fun r => K (dB r) []) := ok_of_eq (F.spec_l1Text_eq s h_s) hK
 refine ⟨⟨show (1 : Nat) ≤ 23 by decide, show (1 : Nat) ≤ 1000000 by decide⟩, ann192, (L192 s), (.dat Ty.bool), (loopsN1 (i0 := 0) (by kernel_rfl) ?_), ?_⟩
 ·clear h
  intro m_ s_ K_ h
  obtain ⟨hc0, i0, v0, rfl, hl0, rfl, hv0, h⟩ := (show LP192_0 s m_ s_ K_ from h)
  rw [lvc192_0 s i0 v0 _ K_]
  exact (loopI_step h (fun ht0 h => ⟨hl0, ⟨ht0, (ok_cond h (fun b_11 h => ⟨hl0, ⟨ht0, (ok_cond h (fun b_12 h => (ok_ret h :)) (fun b_12 h => (loopI_next (fun m hm => (show LP192_0 s m _ _ from ⟨hc0, hm⟩)) () rfl hl0 low0 ht0 (sm_size h_s) trivial (ok_ret h :))))⟩⟩) (fun b_11 h => (ok_ret h :)))⟩⟩) (fun h => (h trivial)))
 ·rw [vc192 s K]
  exact (loopI_start (fun m hm => ⟨trivial, hm⟩) Z0 () rfl (Int.natCast_nonneg 0) trivial (ok_then h (fun v0 h hv0 => (ok_ret h :)) (fun q0 h => (ok_ret h :))))
def c157 : Con := ⟨[.dat TValue], fun args hp K => args1 (fun a0 => withD TValue a0 fun v => (Sm TValue v) ∧ K (dB (M.valueOk v)) []) args hp, .plain⟩
def cons157 : Cons := [(62, c62), (192, c192)]
@[reducible] def C157 : Ctx := ⟨tab, fun t => memN t cmps, cons157, 45, [], 0, false⟩
theorem consOk157 : ConsOk P C157 := by
 refine consOk_cons (enter_ok (fn := f62) func62 (by kernel_rfl) rfl) con62_ok ?_
 refine consOk_cons (enter_ok (fn := f192) func192 (by kernel_rfl) rfl) con192_ok ?_
 exact consOk_nil
def ann157 : Nat → List Dir
 | 0 => [.fixRow 1 TValue, .keep [1]]
 | 1 => [.keep [1, 4]]
 | 2 => [.keep [1, 4, 5]]
 | 3 => [.keep [2]]
 | 4 => [.keep [1, 4, 15]]
 | 5 => [.keep [2]]
 | 6 => [.keep [1, 4, 25]]
 | 7 => [.keep [2]]
 | 8 => [.keep [1, 35]]
 | 9 => [.keep [2]]
 | 10 => [.keep [2]]
 | _ => []
def L157 (v : (TValue).D) : Loops := fun id m st_ K => match id with
 | _ => False
theorem vc157 (v : (TValue).D) (K : KA) : awp C157 (L157 v) ann157 (bodyOf f157) ⟨argEnv 0 [.data TValue v], []⟩ (outK tab false f157.results.toList (hasBox []) (resK (.dat Ty.bool) K)) =
 (cond (decide (v.1 = Z0)) (cond ((decide (v.2.1 = Z0)) == true) (K (dB (decide (v.2.2.1 = (⟨#[]⟩ : ByteArray)))) []) (K (dB false) [])) (cond (decide (v.1 = Z1)) (cond ((M.inR v.2.1 (-9999 : Int) (9999 : Int)) == true) (K (dB (decide (v.2.2.1 = (⟨#[]⟩ : ByteArray)))) []) (K (dB false) [])) (cond (decide (v.1 = Z2)) (cond ((decide (v.2.1 = Z0)) == true) ((Sm Ty.str v.2.2.1) ∧ K (dB (M.text v.2.2.1)) []) (K (dB false) [])) (cond (decide (v.1 = Z3)) (cond ((M.inR v.2.1 Z0 Z1) == true) (K (dB (decide (v.2.2.1 = (⟨#[]⟩ : ByteArray)))) []) (K (dB false) [])) (K (dB false) []))))) := by kernel_rfl
theorem con157_ok : ConOk P 157 c157 := by
 refine con_okR (fn := f157) (code := bodyOf f157) (tab_ok tab_check cmp_check) consOk157 mixed func157 rfl rfl fun args hp K h0 => ?_
 obtain ⟨a0, rfl, rfl, h1⟩ := args1_elim h0
 obtain ⟨v, rfl, h2⟩ := withD_elim h1
 obtain ⟨h_v, hK⟩ := h2
 have h : ok (F.spec_ValueOk v) (fun r => K (dB r) []) := ok_of_eq (F.spec_ValueOk_eq v h_v) hK
 refine ⟨⟨show (1 : Nat) ≤ 45 by decide, show (1 : Nat) ≤ 1000000 by decide⟩, ann157, (L157 v), (.dat Ty.bool), (no_loops (by kernel_rfl)), ?_⟩
 ·rw [vc157 v K]
  exact (ok_cond h (fun b_1 h => (ok_cond h (fun b_2 h => (ok_ret h :)) (fun b_2 h => (ok_ret h :)))) (fun b_1 h => (ok_cond h (fun b_3 h => (ok_cond h (fun b_4 h => (ok_ret h :)) (fun b_4 h => (ok_ret h :)))) (fun b_3 h => (ok_cond h (fun b_5 h => (ok_cond h (fun b_6 h => ⟨h_v.2.2.1, (ok_ret h :)⟩) (fun b_6 h => (ok_ret h :)))) (fun b_5 h => (ok_cond h (fun b_7 h => (ok_cond h (fun b_8 h => (ok_ret h :)) (fun b_8 h => (ok_ret h :)))) (fun b_7 h => (ok_ret h :)))))))))
def c127 : Con := ⟨[.dat TCS, .mv, .dat TPart], fun args hp K => hpN 0 false TInt (fun kinds => args3 (fun a0 a1 a2 => withD TCS a0 fun columns => withO 0 a1 (withD TPart a2 fun p => (Sm TCS columns) ∧ (Sm (Ty.sl TInt) kinds) ∧ (Sm TPart p) ∧ (kinds.length ≤ 1000) ∧ (∀ r : (List Int) × Bool, r = (M.l4Step columns kinds p) → K (.tup [.own 0 none, dB r.2]) [(0, .arr false TInt r.1)]))) args []) hp, .mv⟩
def cons127 : Cons := [(62, c62), (157, c157)]
@[reducible] def C127 : Ctx := ⟨tab, fun t => memN t cmps, cons127, 191, [], 0, true⟩
theorem consOk127 : ConsOk P C127 := by
 refine consOk_cons (enter_ok (fn := f62) func62 (by kernel_rfl) rfl) con62_ok ?_
 refine consOk_cons (enter_ok (fn := f157) func157 (by kernel_rfl) rfl) con157_ok ?_
 exact consOk_nil
def ann127 : Nat → List Dir
 | 0 => [.fixRow 5 TPart, .keep [0, 1, 5]]
 | 1 => [.keep [0, 1, 5, 8]]
 | 2 => [.keep [0, 1, 5, 8, 37]]
 | 3 => [.keep [6, 7]]
 | 4 => [.keep [0, 1, 5, 8, 40]]
 | 5 => [.keep [0, 1, 5, 8, 40, 41]]
 | 6 => [.keep [1, 5, 52]]
 | 7 => [.keep [6, 7]]
 | 8 => [.keep [6, 7]]
 | 9 => [.keep [0, 1, 5, 8, 40, 60]]
 | 10 => [.keep [0, 1, 5, 68]]
 | 11 => [.keep [6, 7]]
 | 12 => [.keep [6, 7]]
 | 13 => [.keep [1, 5, 8, 40, 79]]
 | 14 => [.keep [1, 8, 9]]
 | 15 => [.keep [6, 7]]
 | 16 => [.keep [1, 5, 8, 40, 107]]
 | 17 => [.keep [1, 8, 10]]
 | 18 => [.keep [6, 7]]
 | 19 => [.keep [1, 8, 40, 137]]
 | 20 => [.keep [1, 8, 40, 137]]
 | 21 => [.keep [1, 8, 11]]
 | 22 => [.keep [6, 7]]
 | 23 => [.keep [1, 8, 40, 166]]
 | 24 => [.keep [6, 7]]
 | 25 => [.keep [1, 8, 179]]
 | 26 => [.keep [6, 7]]
 | 27 => [.keep [6, 7]]
 | _ => []
def L127 (columns : LC) (kinds : (List Int)) (p : (TPart).D) : Loops := fun id m st_ K => match id with
 | _ => False
@[reducible] def S127_0 (columns : LC) (kinds : (List Int)) (p : (TPart).D) (K : KA) : Prop := (0 ≤ Z0) ∧ (Z0 ≤ (maxI (wrap64 ((kinds.length : Int) - Z2)) Z0)) ∧ ((maxI (wrap64 ((kinds.length : Int) - Z2)) Z0) ≤ (kinds.length : Int)) ∧ ((maxI (wrap64 ((kinds.length : Int) - Z2)) Z0) = (maxI (wrap64 ((kinds.length : Int) - Z2)) Z0)) ∧ (Z0 = 0) ∧ (((maxI (wrap64 ((kinds.length : Int) - Z2)) Z0).toNat + [Z1].length) * 8 ≤ lim) ∧ K (.tup [.own 0 none, dB false]) [(0, .arr false TInt (kinds.take (maxI (wrap64 ((kinds.length : Int) - Z2)) Z0).toNat ++ [Z1]))]
@[reducible] def S127_1 (columns : LC) (kinds : (List Int)) (p : (TPart).D) (K : KA) : Prop := (0 ≤ Z0) ∧ (Z0 ≤ (maxI (wrap64 ((kinds.length : Int) - Z2)) Z0)) ∧ ((maxI (wrap64 ((kinds.length : Int) - Z2)) Z0) ≤ (kinds.length : Int)) ∧ ((maxI (wrap64 ((kinds.length : Int) - Z2)) Z0) = (maxI (wrap64 ((kinds.length : Int) - Z2)) Z0)) ∧ (Z0 = 0) ∧ (((maxI (wrap64 ((kinds.length : Int) - Z2)) Z0).toNat + [Z3].length) * 8 ≤ lim) ∧ K (.tup [.own 0 none, dB false]) [(0, .arr false TInt (kinds.take (maxI (wrap64 ((kinds.length : Int) - Z2)) Z0).toNat ++ [Z3]))]
@[reducible] def S127_2 (columns : LC) (kinds : (List Int)) (p : (TPart).D) (K : KA) : Prop := (S127_1 columns kinds p K)
@[reducible] def S127_3 (columns : LC) (kinds : (List Int)) (p : (TPart).D) (K : KA) : Prop := cond ((decide (Z1 < (kinds.length : Int))) == true) ((0 ≤ wrap64 ((kinds.length : Int) - Z1)) ∧ (wrap64 ((kinds.length : Int) - Z1) < (kinds.length : Int)) ∧ cond ((decide ((nI kinds (wrap64 ((kinds.length : Int) - Z1))) = Z3)) == true) ((0 ≤ wrap64 ((kinds.length : Int) - Z2)) ∧ (wrap64 ((kinds.length : Int) - Z2) < (kinds.length : Int)) ∧ (0 ≤ Z0) ∧ (Z0 ≤ (maxI (wrap64 ((kinds.length : Int) - Z2)) Z0)) ∧ ((maxI (wrap64 ((kinds.length : Int) - Z2)) Z0) ≤ (kinds.length : Int)) ∧ ((maxI (wrap64 ((kinds.length : Int) - Z2)) Z0) = (maxI (wrap64 ((kinds.length : Int) - Z2)) Z0)) ∧ (Z0 = 0) ∧ (((maxI (wrap64 ((kinds.length : Int) - Z2)) Z0).toNat + [Z3].length) * 8 ≤ lim) ∧ K (.tup [.own 0 none, dB (decide ((nI kinds (wrap64 ((kinds.length : Int) - Z2))) = Z3))]) [(0, .arr false TInt (kinds.take (maxI (wrap64 ((kinds.length : Int) - Z2)) Z0).toNat ++ [Z3]))]) ((S127_2 columns kinds p K))) ((S127_2 columns kinds p K))
@[reducible] def S127_4 (columns : LC) (kinds : (List Int)) (p : (TPart).D) (K : KA) : Prop := cond (decide (p.1 = (7 : Int))) (cond ((decide (Z0 < (kinds.length : Int))) == true) ((0 ≤ wrap64 ((kinds.length : Int) - Z1)) ∧ (wrap64 ((kinds.length : Int) - Z1) < (kinds.length : Int)) ∧ K (.tup [.own 0 none, dB (decide ((nI kinds (wrap64 ((kinds.length : Int) - Z1))) = Z3))]) [(0, .arr false TInt kinds)]) (K (.tup [.own 0 none, dB false]) [(0, .arr false TInt kinds)])) (cond (decide (p.1 = (8 : Int))) ((0 ≤ Z0) ∧ (Z0 ≤ (maxI (wrap64 ((kinds.length : Int) - Z1)) Z0)) ∧ ((maxI (wrap64 ((kinds.length : Int) - Z1)) Z0) ≤ (kinds.length : Int)) ∧ ((maxI (wrap64 ((kinds.length : Int) - Z1)) Z0) = (maxI (wrap64 ((kinds.length : Int) - Z1)) Z0)) ∧ (Z0 = 0) ∧ (((maxI (wrap64 ((kinds.length : Int) - Z1)) Z0).toNat + [Z3].length) * 8 ≤ lim) ∧ K (.tup [.own 0 none, dB (decide (Z0 < (kinds.length : Int)))]) [(0, .arr false TInt (kinds.take (maxI (wrap64 ((kinds.length : Int) - Z1)) Z0).toNat ++ [Z3]))]) (K (.tup [.own 0 none, dB false]) [(0, .arr false TInt kinds)]))
@[reducible] def S127_5 (columns : LC) (kinds : (List Int)) (p : (TPart).D) (K : KA) : Prop := cond (decide (p.1 = Z1)) ((Sm TValue p.2.2.1) ∧ cond ((!(M.valueOk p.2.2.1)) == false) (cond (decide (p.2.2.1.1 = Z0)) (K (.tup [.own 0 none, dB false]) [(0, .arr false TInt kinds)]) (((kinds.length + [p.2.2.1.1].length) * 8 ≤ lim) ∧ K (.tup [.own 0 none, dB true]) [(0, .arr false TInt (kinds ++ [p.2.2.1.1]))])) (K (.tup [.own 0 none, dB false]) [(0, .arr false TInt kinds)])) (cond (decide (p.1 = Z2)) (cond (!(M.inR p.2.1 Z0 (wrap64 ((columns.length : Int) - Z1)))) (K (.tup [.own 0 none, dB false]) [(0, .arr false TInt kinds)]) ((0 ≤ p.2.1) ∧ (p.2.1 < (columns.length : Int)) ∧ ((kinds.length + [(nC columns p.2.1).1].length) * 8 ≤ lim) ∧ K (.tup [.own 0 none, dB true]) [(0, .arr false TInt (kinds ++ [(nC columns p.2.1).1]))])) (cond (decide (p.1 = Z3)) (cond ((decide (Z1 < (kinds.length : Int))) == true) ((0 ≤ wrap64 ((kinds.length : Int) - Z1)) ∧ (wrap64 ((kinds.length : Int) - Z1) < (kinds.length : Int)) ∧ cond ((decide ((nI kinds (wrap64 ((kinds.length : Int) - Z1))) = Z1)) == true) ((0 ≤ wrap64 ((kinds.length : Int) - Z2)) ∧ (wrap64 ((kinds.length : Int) - Z2) < (kinds.length : Int)) ∧ (0 ≤ Z0) ∧ (Z0 ≤ (maxI (wrap64 ((kinds.length : Int) - Z2)) Z0)) ∧ ((maxI (wrap64 ((kinds.length : Int) - Z2)) Z0) ≤ (kinds.length : Int)) ∧ ((maxI (wrap64 ((kinds.length : Int) - Z2)) Z0) = (maxI (wrap64 ((kinds.length : Int) - Z2)) Z0)) ∧ (Z0 = 0) ∧ (((maxI (wrap64 ((kinds.length : Int) - Z2)) Z0).toNat + [Z1].length) * 8 ≤ lim) ∧ K (.tup [.own 0 none, dB (decide ((nI kinds (wrap64 ((kinds.length : Int) - Z2))) = Z1))]) [(0, .arr false TInt (kinds.take (maxI (wrap64 ((kinds.length : Int) - Z2)) Z0).toNat ++ [Z1]))]) ((S127_0 columns kinds p K))) ((S127_0 columns kinds p K))) (cond (decide (p.1 = Z4)) (cond ((decide (Z1 < (kinds.length : Int))) == true) ((0 ≤ wrap64 ((kinds.length : Int) - Z1)) ∧ (wrap64 ((kinds.length : Int) - Z1) < (kinds.length : Int)) ∧ (0 ≤ wrap64 ((kinds.length : Int) - Z2)) ∧ (wrap64 ((kinds.length : Int) - Z2) < (kinds.length : Int)) ∧ cond ((decide ((nI kinds (wrap64 ((kinds.length : Int) - Z1))) = (nI kinds (wrap64 ((kinds.length : Int) - Z2))))) == true) ((0 ≤ Z0) ∧ (Z0 ≤ (maxI (wrap64 ((kinds.length : Int) - Z2)) Z0)) ∧ ((maxI (wrap64 ((kinds.length : Int) - Z2)) Z0) ≤ (kinds.length : Int)) ∧ ((maxI (wrap64 ((kinds.length : Int) - Z2)) Z0) = (maxI (wrap64 ((kinds.length : Int) - Z2)) Z0)) ∧ (Z0 = 0) ∧ (((maxI (wrap64 ((kinds.length : Int) - Z2)) Z0).toNat + [Z3].length) * 8 ≤ lim) ∧ K (.tup [.own 0 none, dB (M.inR p.2.1 Z1 Z4)]) [(0, .arr false TInt (kinds.take (maxI (wrap64 ((kinds.length : Int) - Z2)) Z0).toNat ++ [Z3]))]) ((S127_2 columns kinds p K))) ((S127_2 columns kinds p K))) (cond (decide (p.1 = Z5)) (cond (decide (p.1 = Z5)) ((S127_3 columns kinds p K)) ((S127_4 columns kinds p K))) (cond (decide (p.1 = Z6)) ((S127_3 columns kinds p K)) ((S127_4 columns kinds p K)))))))
@[reducible] def S127_6 (columns : LC) (kinds : (List Int)) (p : (TPart).D) (K : KA) : Prop := cond ((!decide (p.1 = Z2)) == true) (cond ((!decide (p.1 = Z4)) == true) (cond (!decide (p.2.1 = Z0)) (K (.tup [.own 0 none, dB false]) [(0, .arr false TInt kinds)]) ((S127_5 columns kinds p K))) ((S127_5 columns kinds p K))) ((S127_5 columns kinds p K))
theorem vc127 (columns : LC) (kinds : (List Int)) (p : (TPart).D) (K : KA) : awp C127 (L127 columns kinds p) ann127 (bodyOf f127) ⟨argEnv 0 [.data TCS columns, .own 0 none, .data TPart p], [(0, .arr false TInt kinds)]⟩ (outK tab true f127.results.toList (hasBox [(0, .arr false TInt kinds)]) (resK .raw K)) =
 (cond ((!decide (p.1 = Z1)) == true) (cond ((!(Ty.beq TValue p.2.2.1 (Z0, (Z0, ((⟨#[]⟩ : ByteArray), ()))))) == false) ((S127_6 columns kinds p K)) (K (.tup [.own 0 none, dB false]) [(0, .arr false TInt kinds)])) ((S127_6 columns kinds p K))) := by kernel_rfl
theorem con127_ok : ConOk P 127 c127 := by
 refine con_okR (fn := f127) (code := bodyOf f127) (tab_ok tab_check cmp_check) consOk127 mixed func127 rfl rfl fun args hp K h0 => ?_
 unfold c127 at h0
 dsimp only at h0
 obtain ⟨kinds, rfl, h00⟩ := hpN_elim (n := 0) (d := false) (t := TInt) h0
 obtain ⟨a0, a1, a2, rfl, _, h1⟩ := args3_elim h00
 obtain ⟨columns, rfl, h2⟩ := withD_elim h1
 obtain ⟨rfl, h3⟩ := withO_elim h2
 obtain ⟨p, rfl, h4⟩ := withD_elim h3
 obtain ⟨h_columns, h_kinds, h_p, p0, hK⟩ := h4
 have h : ok (F.spec_l4Step columns kinds p) (fun r => K (.tup [.own 0 none, dB r.2]) [(0, .arr false TInt r.1)]) := ok_of_eq (F.spec_l4Step_eq columns kinds p h_columns h_kinds h_p p0) (hK _ rfl)
 refine ⟨⟨show (3 : Nat) ≤ 191 by decide, show (3 : Nat) ≤ 1000000 by decide⟩, ann127, (L127 columns kinds p), .raw, (no_loops (by kernel_rfl)), ?_⟩
 ·rw [vc127 columns kinds p K]
  exact (ok_cond h (fun b_1 h => (ok_cond h (fun b_2 h => (ok_cond h (fun b_3 h => (ok_cond h (fun b_4 h => (ok_cond h (fun b_5 h => (ok_ret h :)) (fun b_5 h => (cond_f (bnt (bet b_1)) (cond_f (bnt (bet b_3)) (ok_cond h (fun b_11 h => (ok_cond h (fun b_12 h => ⟨(ok_guard h).1, have h := (ok_guard h).2; ⟨(ok_guard h).1, have h := (ok_guard h).2; (ok_cond h (fun b_15 h => ⟨(ok_guard h).1, have h := (ok_guard h).2; ⟨(ok_guard h).1, have h := (ok_guard h).2; ⟨(Int.natCast_nonneg 0), ⟨(ok_guard h).1, have h := (ok_guard h).2; ⟨(ok_guard h).1, have h := (ok_guard h).2; ⟨rfl, ⟨rfl, ⟨(ok_guard h).1, have h := (ok_guard h).2; (ok_ret h :)⟩⟩⟩⟩⟩⟩⟩⟩) (fun b_15 h => ⟨(Int.natCast_nonneg 0), ⟨(ok_guard h).1, have h := (ok_guard h).2; ⟨(ok_guard h).1, have h := (ok_guard h).2; ⟨rfl, ⟨rfl, ⟨(ok_guard h).1, have h := (ok_guard h).2; (ok_ret h :)⟩⟩⟩⟩⟩⟩))⟩⟩) (fun b_12 h => ⟨(Int.natCast_nonneg 0), ⟨(ok_guard h).1, have h := (ok_guard h).2; ⟨(ok_guard h).1, have h := (ok_guard h).2; ⟨rfl, ⟨rfl, ⟨(ok_guard h).1, have h := (ok_guard h).2; (ok_ret h :)⟩⟩⟩⟩⟩⟩))) (fun b_11 h => (cond_f (bnt (bet b_4)) (ok_cond h (fun b_43 h => (cond_t b_43 (ok_cond h (fun b_45 h => ⟨(ok_guard h).1, have h := (ok_guard h).2; ⟨(ok_guard h).1, have h := (ok_guard h).2; (ok_cond h (fun b_48 h => ⟨(ok_guard h).1, have h := (ok_guard h).2; ⟨(ok_guard h).1, have h := (ok_guard h).2; ⟨(Int.natCast_nonneg 0), ⟨(ok_guard h).1, have h := (ok_guard h).2; ⟨(ok_guard h).1, have h := (ok_guard h).2; ⟨rfl, ⟨rfl, ⟨(ok_guard h).1, have h := (ok_guard h).2; (ok_ret h :)⟩⟩⟩⟩⟩⟩⟩⟩) (fun b_48 h => ⟨(Int.natCast_nonneg 0), ⟨(ok_guard h).1, have h := (ok_guard h).2; ⟨(ok_guard h).1, have h := (ok_guard h).2; ⟨rfl, ⟨rfl, ⟨(ok_guard h).1, have h := (ok_guard h).2; (ok_ret h :)⟩⟩⟩⟩⟩⟩))⟩⟩) (fun b_45 h => ⟨(Int.natCast_nonneg 0), ⟨(ok_guard h).1, have h := (ok_guard h).2; ⟨(ok_guard h).1, have h := (ok_guard h).2; ⟨rfl, ⟨rfl, ⟨(ok_guard h).1, have h := (ok_guard h).2; (ok_ret h :)⟩⟩⟩⟩⟩⟩)))) (fun b_43 h => (ok_cond h (fun b_68 h => (ok_cond h (fun b_69 h => ⟨(ok_guard h).1, have h := (ok_guard h).2; ⟨(ok_guard h).1, have h := (ok_guard h).2; (ok_cond h (fun b_72 h => ⟨(ok_guard h).1, have h := (ok_guard h).2; ⟨(ok_guard h).1, have h := (ok_guard h).2; ⟨(Int.natCast_nonneg 0), ⟨(ok_guard h).1, have h := (ok_guard h).2; ⟨(ok_guard h).1, have h := (ok_guard h).2; ⟨rfl, ⟨rfl, ⟨(ok_guard h).1, have h := (ok_guard h).2; (ok_ret h :)⟩⟩⟩⟩⟩⟩⟩⟩) (fun b_72 h => ⟨(Int.natCast_nonneg 0), ⟨(ok_guard h).1, have h := (ok_guard h).2; ⟨(ok_guard h).1, have h := (ok_guard h).2; ⟨rfl, ⟨rfl, ⟨(ok_guard h).1, have h := (ok_guard h).2; (ok_ret h :)⟩⟩⟩⟩⟩⟩))⟩⟩) (fun b_69 h => ⟨(Int.natCast_nonneg 0), ⟨(ok_guard h).1, have h := (ok_guard h).2; ⟨(ok_guard h).1, have h := (ok_guard h).2; ⟨rfl, ⟨rfl, ⟨(ok_guard h).1, have h := (ok_guard h).2; (ok_ret h :)⟩⟩⟩⟩⟩⟩))) (fun b_68 h => (ok_cond h (fun b_84 h => (ok_cond h (fun b_85 h => ⟨(ok_guard h).1, have h := (ok_guard h).2; ⟨(ok_guard h).1, have h := (ok_guard h).2; (ok_ret h :)⟩⟩) (fun b_85 h => (ok_ret h :)))) (fun b_84 h => (ok_cond h (fun b_88 h => ⟨(Int.natCast_nonneg 0), ⟨(ok_guard h).1, have h := (ok_guard h).2; ⟨(ok_guard h).1, have h := (ok_guard h).2; ⟨rfl, ⟨rfl, ⟨(ok_guard h).1, have h := (ok_guard h).2; (ok_ret h :)⟩⟩⟩⟩⟩⟩) (fun b_88 h => (ok_ret h :))))))))))))))))) (fun b_4 h => (cond_f (bnt (bet b_1)) (cond_f (bnt (bet b_3)) (cond_f (dec_ne (bnf (bef b_4)) (by decide)) (cond_t (bnf (bef b_4)) (ok_cond h (fun b_114 h => ⟨(ok_guard h).1, have h := (ok_guard h).2; ⟨(ok_guard h).1, have h := (ok_guard h).2; ⟨(ok_guard h).1, have h := (ok_guard h).2; ⟨(ok_guard h).1, have h := (ok_guard h).2; (ok_cond h (fun b_119 h => ⟨(Int.natCast_nonneg 0), ⟨(ok_guard h).1, have h := (ok_guard h).2; ⟨(ok_guard h).1, have h := (ok_guard h).2; ⟨rfl, ⟨rfl, ⟨(ok_guard h).1, have h := (ok_guard h).2; (ok_ret h :)⟩⟩⟩⟩⟩⟩) (fun b_119 h => ⟨(Int.natCast_nonneg 0), ⟨(ok_guard h).1, have h := (ok_guard h).2; ⟨(ok_guard h).1, have h := (ok_guard h).2; ⟨rfl, ⟨rfl, ⟨(ok_guard h).1, have h := (ok_guard h).2; (ok_ret h :)⟩⟩⟩⟩⟩⟩))⟩⟩⟩⟩) (fun b_114 h => ⟨(Int.natCast_nonneg 0), ⟨(ok_guard h).1, have h := (ok_guard h).2; ⟨(ok_guard h).1, have h := (ok_guard h).2; ⟨rfl, ⟨rfl, ⟨(ok_guard h).1, have h := (ok_guard h).2; (ok_ret h :)⟩⟩⟩⟩⟩⟩))))))))) (fun b_3 h => (cond_f (bnt (bet b_1)) (cond_t (bnf (bef b_3)) (ok_cond h (fun b_182 h => (ok_ret h :)) (fun b_182 h => ⟨(inR_lo (bnf b_182)), ⟨(inR_hi (bnf b_182)), ⟨(sm_lim2 h_kinds (sm_one trivial) rfl), (ok_ret h :)⟩⟩⟩))))))) (fun b_2 h => (ok_ret h :)))) (fun b_1 h => (cond_t (uet (unt (dec_ne (bnf (bef b_1)) (by decide)))) (cond_t (uet (unt (dec_ne (bnf (bef b_1)) (by decide)))) (ok_cond h (fun b_266 h => (ok_ret h :)) (fun b_266 h => (cond_t (bnf (bef b_1)) ⟨h_p.2.2.1, (ok_cond h (fun b_268 h => (ok_cond h (fun b_269 h => (ok_ret h :)) (fun b_269 h => ⟨(sm_lim2 h_kinds (sm_one trivial) rfl), (ok_ret h :)⟩))) (fun b_268 h => (ok_ret h :)))⟩)))))))
def c95 : Con := ⟨[.dat TCS, .dat TPS], fun args hp K => args2 (fun a0 a1 => withD TCS a0 fun columns => withD TPS a1 fun e => (Sm TCS columns) ∧ (Sm TPS e) ∧ K (dI (M.exprKind columns e)) []) args hp, .plain⟩
def cons95 : Cons := [(126, c126), (127, c127)]
@[reducible] def C95 : Ctx := ⟨tab, fun t => memN t cmps, cons95, 46, [], 0, false⟩
theorem consOk95 : ConsOk P C95 := by
 refine consOk_cons (enter_ok (fn := f126) func126 (by kernel_rfl) rfl) con126_ok ?_
 refine consOk_cons (enter_ok (fn := f127) func127 (by kernel_rfl) rfl) con127_ok ?_
 exact consOk_nil
def ann95 : Nat → List Dir
 | 0 => [.keep [0, 1]]
 | 1 => [.keep [0, 1, 15]]
 | 2 => [.keep [4]]
 | 3 => [.keep [0, 1, 5]]
 | 4 => [.keep [0, 1, 5, 6]]
 | 5 => [.keep [0, 1, 5, 6, 7]]
 | 6 => [.keep [0, 1, 5, 6, 7, 23]]
 | 7 => [.keep [0, 1, 5, 6, 7]]
 | 8 => [.keep [0, 1, 5, 6, 7]]
 | 9 => [.keep [5, 42]]
 | 10 => [.keep [4]]
 | 11 => [.keep [4]]
 | 100000 => [.keep [5, 6]]
 | _ => []
@[reducible] def LP95_0 (columns : LC) (e : LPt) (m : Nat) (st_ : St) (K : KX) : Prop := (True) ∧ LoopW (fun v0 : Bool × Int × (List Int) => (⟨[(0, .data TCS columns), (1, .data TPS e), (5, .own 16 none), (6, dB v0.1), (7, dI v0.2.1)], [(16, .arr false TInt v0.2.2)]⟩ : St)) (F.spec_ExprKind_l0 columns e) (fun v0 : Bool × Int × (List Int) => True) ((fun e0 : Bool × (List Int) => True → K (.exit 0) (⟨[(5, .own 16 none), (6, dB e0.1)], [(16, .arr false TInt e0.2)]⟩ : St))) m st_
def L95 (columns : LC) (e : LPt) : Loops := fun id m st_ K => match id with
 | 0 => LP95_0 columns e m st_ K
 | _ => False
theorem vc95 (columns : LC) (e : LPt) (K : KA) : awp C95 (L95 columns e) ann95 (bodyOf f95) ⟨argEnv 0 [.data TCS columns, .data TPS e], []⟩ (outK tab false f95.results.toList (hasBox []) (resK (.dat TInt) K)) =
 ((Sm TCS columns) ∧ cond ((!(M.columnsOk columns)) == false) (cond (decide ((12 : Int) < (e.length : Int))) (K (dI (-1 : Int)) []) ((∃ m_, (True) ∧ LoopW (fun v0 : Bool × Int × (List Int) => (⟨[(0, .data TCS columns), (1, .data TPS e), (5, .own 16 none), (6, dB v0.1), (7, dI v0.2.1)], [(16, .arr false TInt v0.2.2)]⟩ : St)) (F.spec_ExprKind_l0 columns e) (fun v0 : Bool × Int × (List Int) => True) ((fun e0 : Bool × (List Int) => True → cond ((!e0.1) == false) (cond (!decide ((e0.2.length : Int) = Z1)) (K (dI (-1 : Int)) []) ((0 ≤ Z0) ∧ (Z0 < (e0.2.length : Int)) ∧ K (dI (nI e0.2 Z0)) [])) (K (dI (-1 : Int)) []))) m_ (⟨[(0, .data TCS columns), (1, .data TPS e), (5, .own 16 none), (6, dB true), (7, dI Z0)], [(16, .arr false TInt [])]⟩ : St)))) (K (dI (-1 : Int)) [])) := by kernel_rfl
theorem lvc95_0 (columns : LC) (e : LPt)  (v0 : Bool × Int × (List Int)) (m : Nat) (K : KX) : awp C95 (L95 columns e) ann95 (loopAt (bodyOf f95) 0) (⟨[(0, .data TCS columns), (1, .data TPS e), (5, .own 16 none), (6, dB v0.1), (7, dI v0.2.1)], [(16, .arr false TInt v0.2.2)]⟩ : St) (thenW (fun s' => ∃ m', m' < m ∧ (L95 columns e) 0 m' s' K) (exitN 0 (ann95 (behind 0)) K)) =
 (cond ((decide (v0.2.1 < (e.length : Int))) == true) (cond v0.1 ((0 ≤ v0.2.1) ∧ (v0.2.1 < (e.length : Int)) ∧ (Sm TCS columns) ∧ (Sm (Ty.sl TInt) v0.2.2) ∧ (Sm TPart (nP e v0.2.1)) ∧ (v0.2.2.length ≤ 1000) ∧ (∀ r_8_6 : (List Int) × Bool, r_8_6 = (M.l4Step columns v0.2.2 (nP e v0.2.1)) → (∃ m_, m_ < m ∧ (L95 columns e) 0 m_ (⟨[(0, .data TCS columns), (1, .data TPS e), (5, .own 16 none), (6, dB r_8_6.2), (7, dI (wrap64 (v0.2.1 + Z1)))], [(16, .arr false TInt r_8_6.1)]⟩ : St) K))) (K (.exit 0) (⟨[(5, .own 16 none), (6, dB v0.1)], [(16, .arr false TInt v0.2.2)]⟩ : St))) (K (.exit 0) (⟨[(5, .own 16 none), (6, dB v0.1)], [(16, .arr false TInt v0.2.2)]⟩ : St))) := by kernel_rfl
theorem con95_ok : ConOk P 95 c95 := by
 refine con_okR (fn := f95) (code := bodyOf f95) (tab_ok tab_check cmp_check) consOk95 mixed func95 rfl rfl fun args hp K h0 => ?_
 obtain ⟨a0, a1, rfl, rfl, h1⟩ := args2_elim h0
 obtain ⟨columns, rfl, h2⟩ := withD_elim h1
 obtain ⟨e, rfl, h3⟩ := withD_elim h2
 obtain ⟨h_columns, h_e, hK⟩ := h3
 have h : ok (F.spec_ExprKind columns e) (fun r => K (dI r) []) := ok_of_eq (F.spec_ExprKind_eq columns e h_columns h_e) hK
 refine ⟨⟨show (2 : Nat) ≤ 46 by decide, show (2 : Nat) ≤ 1000000 by decide⟩, ann95, (L95 columns e), (.dat TInt), (loopsN1 (i0 := 0) (by kernel_rfl) ?_), ?_⟩
 ·clear h
  intro m_ s_ K_ h
  obtain ⟨hc0, v0, rfl, hv0, h⟩ := (show LP95_0 columns e m_ s_ K_ from h)
  rw [lvc95_0 columns e v0 _ K_]
  exact (loopW_step h (fun m1 hm0 h => (ok_cond h (fun b_11 h => (ok_cond h (fun b_12 h => ⟨(ok_guard h).1, have h := (ok_guard h).2; ⟨(ok_guard h).1, have h := (ok_guard h).2; ⟨h_columns, ⟨(ok_guard h).1, have h := (ok_guard h).2; ⟨(sm_nth h_e v0.2.1), ⟨(ok_guard h).1, have h := (ok_guard h).2; (fun r_8_6 e_r_8_6 => have h := ok_let h r_8_6 e_r_8_6; (loopW_next (fun m hm => (show LP95_0 columns e m _ _ from ⟨hc0, hm⟩)) hm0 (r_8_6.2, wrap64 (v0.2.1 + Z1), r_8_6.1) rfl trivial (ok_ret h :)))⟩⟩⟩⟩⟩⟩) (fun b_12 h => ((ok_ret h :) trivial)))) (fun b_11 h => ((ok_ret h :) trivial)))))
 ·rw [vc95 columns e K]
  exact ⟨h_columns, (ok_cond h (fun b_1 h => (ok_cond h (fun b_2 h => (ok_ret h :)) (fun b_2 h => (loopW_start (fun m hm => ⟨trivial, hm⟩) (true, Z0, []) rfl trivial (ok_bind h (fun e0 h hv0 => (ok_cond h (fun b_17 h => (ok_cond h (fun b_18 h => (ok_ret h :)) (fun b_18 h => ⟨(Int.natCast_nonneg 0), ⟨(ok_guard h).1, have h := (ok_guard h).2; (ok_ret h :)⟩⟩))) (fun b_17 h => (ok_ret h :))))))))) (fun b_1 h => (ok_ret h :)))⟩
def c140 : Con := ⟨[.dat TStep], fun args hp K => args1 (fun a0 => withD TStep a0 fun s => (Sm TStep s) ∧ K (dB (M.fieldsOk s)) []) args hp, .plain⟩
def cons140 : Cons := []
@[reducible] def C140 : Ctx := ⟨tab, fun t => memN t cmps, cons140, 68, [], 0, false⟩
theorem consOk140 : ConsOk P C140 := by
 exact consOk_nil
def ann140 : Nat → List Dir
 | 0 => [.fixRow 1 TStep, .keep [1]]
 | 1 => [.keep [1, 3]]
 | 2 => [.keep [1, 3, 4]]
 | 3 => [.keep [1, 3, 4, 5]]
 | 4 => [.keep [2]]
 | _ => []
def L140 (s : (TStep).D) : Loops := fun id m st_ K => match id with
 | _ => False
@[reducible] def S140_0 (s : (TStep).D) (K : KA) : Prop := cond ((decide (s.1 = Z3)) == false) (K (dB (decide ((s.2.2.2.2.2.1.length : Int) = Z0))) []) (K (dB true) [])
@[reducible] def S140_1 (s : (TStep).D) (K : KA) : Prop := cond ((decide (s.1 = Z4)) == false) (cond ((decide ((s.2.2.2.2.1.length : Int) = Z0)) == true) ((S140_0 s K)) (K (dB false) [])) ((S140_0 s K))
@[reducible] def S140_2 (s : (TStep).D) (K : KA) : Prop := cond ((decide (s.1 = Z1)) == false) (cond ((decide (s.2.2.2.1 = Z0)) == true) ((S140_1 s K)) (K (dB false) [])) ((S140_1 s K))
@[reducible] def S140_3 (s : (TStep).D) (K : KA) : Prop := cond ((decide (s.1 = Z5)) == false) (cond ((decide (s.2.2.1 = Z0)) == true) ((S140_2 s K)) (K (dB false) [])) ((S140_2 s K))
@[reducible] def S140_4 (s : (TStep).D) (K : KA) : Prop := cond ((decide (s.1 = Z1)) == false) (cond ((decide (s.2.2.2.1 = Z0)) == true) ((S140_0 s K)) (K (dB false) [])) ((S140_0 s K))
@[reducible] def S140_5 (s : (TStep).D) (K : KA) : Prop := cond ((decide (s.1 = Z5)) == false) (cond ((decide (s.2.2.1 = Z0)) == true) ((S140_4 s K)) (K (dB false) [])) ((S140_4 s K))
theorem vc140 (s : (TStep).D) (K : KA) : awp C140 (L140 s) ann140 (bodyOf f140) ⟨argEnv 0 [.data TStep s], []⟩ (outK tab false f140.results.toList (hasBox []) (resK (.dat Ty.bool) K)) =
 (cond ((decide (s.1 = Z4)) == false) (cond ((decide (s.1 = Z2)) == false) (cond ((!(decide (s.1 = Z1))) == false) (cond ((decide (s.2.1 = Z0)) == true) ((S140_3 s K)) (K (dB false) [])) ((S140_3 s K))) (cond ((!(decide (s.1 = Z1))) == false) (cond ((decide (s.2.1 = Z0)) == true) ((S140_5 s K)) (K (dB false) [])) ((S140_5 s K)))) (cond ((decide (s.1 = Z2)) == false) (cond ((!(decide (s.1 = Z1))) == false) (cond ((decide (s.2.1 = Z0)) == true) ((S140_2 s K)) (K (dB false) [])) ((S140_2 s K))) (cond ((!(decide (s.1 = Z1))) == false) (cond ((decide (s.2.1 = Z0)) == true) ((S140_4 s K)) (K (dB false) [])) ((S140_4 s K))))) := by kernel_rfl
theorem con140_ok : ConOk P 140 c140 := by
 refine con_okR (fn := f140) (code := bodyOf f140) (tab_ok tab_check cmp_check) consOk140 mixed func140 rfl rfl fun args hp K h0 => ?_
 obtain ⟨a0, rfl, rfl, h1⟩ := args1_elim h0
 obtain ⟨s, rfl, h2⟩ := withD_elim h1
 obtain ⟨h_s, hK⟩ := h2
 have h : ok (F.spec_l6Fields s) (fun r => K (dB r) []) := ok_of_eq (F.spec_l6Fields_eq s h_s) hK
 refine ⟨⟨show (1 : Nat) ≤ 68 by decide, show (1 : Nat) ≤ 1000000 by decide⟩, ann140, (L140 s), (.dat Ty.bool), (no_loops (by kernel_rfl)), ?_⟩
 ·rw [vc140 s K]
  exact (ok_cond h (fun b_1 h => (ok_cond h (fun b_2 h => (ok_cond h (fun b_3 h => (ok_cond h (fun b_4 h => (cond_t (ugt (dec_ne (bnf (bgt b_3)) (by decide))) (ok_cond h (fun b_6 h => (cond_f (ugf (bnf (bgt b_3))) (cond_t (ugt (bgt b_1)) (ok_cond h (fun b_14 h => (cond_t (ugt (dec_ne (bnf (bgt b_3)) (by decide))) (ok_ret h :))) (fun b_14 h => (ok_ret h :)))))) (fun b_6 h => (ok_ret h :))))) (fun b_4 h => (ok_ret h :)))) (fun b_3 h => (ok_cond h (fun b_27 h => (ok_cond h (fun b_28 h => (cond_t (ugt (bnt (bgf b_3))) (ok_cond h (fun b_30 h => (cond_t (ugt (bgt b_1)) (ok_cond h (fun b_32 h => (ok_cond h (fun b_33 h => (ok_ret h :)) (fun b_33 h => (ok_ret h :)))) (fun b_32 h => (ok_ret h :))))) (fun b_30 h => (ok_ret h :))))) (fun b_28 h => (ok_ret h :)))) (fun b_27 h => (cond_t (ugt (bnt (bgf b_3))) (ok_cond h (fun b_40 h => (cond_t (ugt (bgt b_1)) (ok_cond h (fun b_42 h => (cond_t (ugt (dec_ne (bgf b_27) (by decide))) (ok_ret h :))) (fun b_42 h => (ok_ret h :))))) (fun b_40 h => (ok_ret h :))))))))) (fun b_2 h => (cond_f (ugf (unt (dec_ne (bgf b_2) (by decide)))) (cond_t (ugt (dec_ne (bgf b_2) (by decide))) (ok_cond h (fun b_62 h => (cond_t (ugt (dec_ne (bgf b_2) (by decide))) (ok_cond h (fun b_64 h => (cond_t (ugt (dec_ne (bgf b_2) (by decide))) (ok_ret h :))) (fun b_64 h => (ok_ret h :))))) (fun b_62 h => (ok_ret h :)))))))) (fun b_1 h => (cond_t (ugt (dec_ne (bgf b_1) (by decide))) (cond_f (ugf (unt (dec_ne (bgf b_1) (by decide)))) (cond_t (ugt (dec_ne (bgf b_1) (by decide))) (ok_cond h (fun b_85 h => (cond_f (ugf (bgf b_1)) (cond_t (ugt (dec_ne (bgf b_1) (by decide))) (ok_ret h :)))) (fun b_85 h => (ok_ret h :))))))))
def c106 : Con := ⟨[.dat TTb, .lent TCS, .dat TStep], fun args hp K => args3 (fun a0 a1 a2 => withD TTb a0 fun tables => withB TCS a1 fun ahead => withD TStep a2 fun s => (Sm TTb tables) ∧ (Sm (Ty.sl TCS) ahead) ∧ (Sm TStep s) ∧ (∀ r : LC × Bool, r = (M.l6Columns tables ahead s) → K (.tup [.data TCS r.1, dB r.2]) [])) args hp, .plain⟩
def cons106 : Cons := [(62, c62), (95, c95), (140, c140)]
@[reducible] def C106 : Ctx := ⟨tab, fun t => memN t cmps, cons106, 185, [], 0, false⟩
theorem consOk106 : ConsOk P C106 := by
 refine consOk_cons (enter_ok (fn := f62) func62 (by kernel_rfl) rfl) con62_ok ?_
 refine consOk_cons (enter_ok (fn := f95) func95 (by kernel_rfl) rfl) con95_ok ?_
 refine consOk_cons (enter_ok (fn := f140) func140 (by kernel_rfl) rfl) con140_ok ?_
 exact consOk_nil
def ann106 : Nat → List Dir
 | 0 => [.fixRow 5 TStep, .keep [0, 1, 5]]
 | 1 => [.keep [0, 1, 5, 15]]
 | 2 => [.keep [6, 7]]
 | 3 => [.keep [0, 1, 5, 19]]
 | 4 => [.keep [0, 5, 26]]
 | 5 => [.keep [6, 7]]
 | 6 => [.keep [6, 7]]
 | 7 => [.keep [1, 5, 51]]
 | 8 => [.keep [6, 7]]
 | 9 => [.keep [1, 5, 8]]
 | 10 => [.keep [1, 5, 8, 61]]
 | 11 => [.keep [1, 5, 8, 61, 62]]
 | 12 => [.keep [6, 7]]
 | 13 => [.keep [1, 5, 8, 61, 70]]
 | 14 => [.keep [5, 8, 9]]
 | 15 => [.keep [5, 8, 9, 10]]
 | 16 => [.keep [5, 8, 9, 10, 77]]
 | 17 => [.keep [5, 8, 9, 10]]
 | 18 => [.keep [5, 8, 9, 10, 89]]
 | 19 => [.keep [6, 7]]
 | 20 => [.keep [5, 8, 9, 10]]
 | 21 => [.keep [6, 7]]
 | 22 => [.keep [1, 5, 8, 61, 106]]
 | 23 => [.keep [5, 11]]
 | 24 => [.keep [6, 7]]
 | 25 => [.keep [1, 5, 8, 61, 126]]
 | 26 => [.keep [1, 5, 8, 136]]
 | 27 => [.keep [6, 7]]
 | 28 => [.keep [1, 5, 8, 12]]
 | 29 => [.keep [1, 5, 8, 12, 141]]
 | 30 => [.keep [1, 5, 8, 12]]
 | 31 => [.keep [1, 5, 8, 12, 158]]
 | 32 => [.keep [6, 7]]
 | 33 => [.keep [1, 5, 8, 12]]
 | 34 => [.keep [6, 7]]
 | 35 => [.keep [8, 181]]
 | 36 => [.keep [6, 7]]
 | 37 => [.keep [6, 7]]
 | 100001 => [.keep [9]]
 | 100003 => [.keep [8]]
 | _ => []
@[reducible] def LP106_1 (tables : LTb) (ahead : (List LC)) (s : (TStep).D) (m : Nat) (st_ : St) (K : KX) : Prop := (True) ∧ LoopE (t := TInt) (fun (i1 : Int) (v1 : LC) => (⟨[(5, .adr TStep s), (8, .own 53 none), (9, .own 72 none), (10, dI i1)], [(53, .arr false TColumn ([] ++ (nth (t := TCS) ahead s.2.1))), (72, .arr false TColumn v1)]⟩ : St)) s.2.2.2.2.2.1 (F.spec_l6Columns_l1 tables ahead s) (fun v1 : LC => True) (outD (fun v1 : LC => True → K (.exit 1) (⟨[(9, .own 72 none)], [(72, .arr false TColumn v1)]⟩ : St)) (fun q1 : Unit => K .ret (⟨[(6, .own 90 none), (7, dB false)], [(90, .arr false TColumn [])]⟩ : St))) m st_
@[reducible] def LP106_3 (tables : LTb) (ahead : (List LC)) (s : (TStep).D) (m : Nat) (st_ : St) (K : KX) : Prop := (True) ∧ LoopW (fun v3 : Int × LC => (⟨[(1, .brw TCS ahead), (5, .adr TStep s), (8, .own 53 none), (12, dI v3.1)], [(53, .arr false TColumn v3.2)]⟩ : St)) (F.spec_l6Columns_l3 tables ahead s) (fun v3 : Int × LC => True) (outD (fun e3 : LC => True → K (.exit 3) (⟨[(8, .own 53 none)], [(53, .arr false TColumn e3)]⟩ : St)) (fun q3 : Unit => K .ret (⟨[(6, .own 159 none), (7, dB false)], [(159, .arr false TColumn [])]⟩ : St))) m st_
def L106 (tables : LTb) (ahead : (List LC)) (s : (TStep).D) : Loops := fun id m st_ K => match id with
 | 1 => LP106_1 tables ahead s m st_ K
 | 3 => LP106_3 tables ahead s m st_ K
 | _ => False
theorem vc106 (tables : LTb) (ahead : (List LC)) (s : (TStep).D) (K : KA) : awp C106 (L106 tables ahead s) ann106 (bodyOf f106) ⟨argEnv 0 [.data TTb tables, .brw TCS ahead, .data TStep s], []⟩ (outK tab false f106.results.toList (hasBox []) (resK (.tup [TCS, Ty.bool]) K)) =
 ((Sm TStep s) ∧ cond (!(M.fieldsOk s)) (K (.tup [.data TCS [], dB false]) []) (cond (decide (s.1 = Z1)) (cond (!(M.inR s.2.2.2.1 Z0 (wrap64 ((tables.length : Int) - Z1)))) (K (.tup [.data TCS [], dB false]) []) ((0 ≤ s.2.2.2.1) ∧ (s.2.2.2.1 < (tables.length : Int)) ∧ ((([] : List TColumn.D).length + ((nT tables s.2.2.2.1).1).length) * 16 ≤ lim) ∧ K (.tup [.data TCS ([] ++ (nT tables s.2.2.2.1).1), dB true]) [])) (cond ((!(M.inR s.2.1 Z0 (wrap64 ((ahead.length : Int) - Z1)))) == false) (cond (!(M.inR s.2.2.1 Z0 (wrap64 ((ahead.length : Int) - Z1)))) (K (.tup [.data TCS [], dB false]) []) ((0 ≤ s.2.1) ∧ (s.2.1 < (ahead.length : Int)) ∧ ((([] : List TColumn.D).length + (nth (t := TCS) ahead s.2.1).length) * 16 ≤ lim) ∧ cond (decide (s.1 = Z2)) ((Sm TCS ([] ++ (nth (t := TCS) ahead s.2.1))) ∧ (Sm TPS s.2.2.2.2.1) ∧ K (.tup [.data TCS ([] ++ (nth (t := TCS) ahead s.2.1)), dB (decide ((M.exprKind ([] ++ (nth (t := TCS) ahead s.2.1)) s.2.2.2.2.1) = Z3))]) []) (cond (decide (s.1 = Z3)) ((∃ m_, (True) ∧ LoopE (t := TInt) (fun (i1 : Int) (v1 : LC) => (⟨[(5, .adr TStep s), (8, .own 53 none), (9, .own 72 none), (10, dI i1)], [(53, .arr false TColumn ([] ++ (nth (t := TCS) ahead s.2.1))), (72, .arr false TColumn v1)]⟩ : St)) s.2.2.2.2.2.1 (F.spec_l6Columns_l1 tables ahead s) (fun v1 : LC => True) (outD (fun v1 : LC => True → K (.tup [.data TCS v1, dB (decide ((v1.length : Int) ≤ Z4))]) []) (fun q1 : Unit => K (.tup [.data TCS [], dB false]) [])) m_ (⟨[(5, .adr TStep s), (8, .own 53 none), (9, .own 72 none), (10, dI Z0)], [(53, .arr false TColumn ([] ++ (nth (t := TCS) ahead s.2.1))), (72, .arr false TColumn [])]⟩ : St))) (cond (decide (s.1 = Z4)) ((0 ≤ s.2.2.1) ∧ (s.2.2.1 < (ahead.length : Int)) ∧ ((([] ++ (nth (t := TCS) ahead s.2.1)).length + (nth (t := TCS) ahead s.2.2.1).length) * 16 ≤ lim) ∧ cond ((decide (((([] ++ (nth (t := TCS) ahead s.2.1)) ++ (nth (t := TCS) ahead s.2.2.1)).length : Int) ≤ Z4)) == true) ((Sm TCS (([] ++ (nth (t := TCS) ahead s.2.1)) ++ (nth (t := TCS) ahead s.2.2.1))) ∧ (Sm TPS s.2.2.2.2.1) ∧ K (.tup [.data TCS (([] ++ (nth (t := TCS) ahead s.2.1)) ++ (nth (t := TCS) ahead s.2.2.1)), dB (decide ((M.exprKind (([] ++ (nth (t := TCS) ahead s.2.1)) ++ (nth (t := TCS) ahead s.2.2.1)) s.2.2.2.2.1) = Z3))]) []) (K (.tup [.data TCS (([] ++ (nth (t := TCS) ahead s.2.1)) ++ (nth (t := TCS) ahead s.2.2.1)), dB false]) [])) (cond (decide (s.1 = Z5)) ((0 ≤ s.2.2.1) ∧ (s.2.2.1 < (ahead.length : Int)) ∧ cond (!decide ((([] ++ (nth (t := TCS) ahead s.2.1)).length : Int) = ((nth (t := TCS) ahead s.2.2.1).length : Int))) (K (.tup [.data TCS [], dB false]) []) ((∃ m_, (True) ∧ LoopW (fun v3 : Int × LC => (⟨[(1, .brw TCS ahead), (5, .adr TStep s), (8, .own 53 none), (12, dI v3.1)], [(53, .arr false TColumn v3.2)]⟩ : St)) (F.spec_l6Columns_l3 tables ahead s) (fun v3 : Int × LC => True) (outD (fun e3 : LC => True → K (.tup [.data TCS e3, dB true]) []) (fun q3 : Unit => K (.tup [.data TCS [], dB false]) [])) m_ (⟨[(1, .brw TCS ahead), (5, .adr TStep s), (8, .own 53 none), (12, dI Z0)], [(53, .arr false TColumn ([] ++ (nth (t := TCS) ahead s.2.1)))]⟩ : St)))) (cond (decide (s.1 = Z6)) (K (.tup [.data TCS ([] ++ (nth (t := TCS) ahead s.2.1)), dB true]) []) (K (.tup [.data TCS [], dB false]) []))))))) (K (.tup [.data TCS [], dB false]) [])))) := by kernel_rfl
theorem lvc106_0 (tables : LTb) (ahead : (List LC)) (s : (TStep).D)  (i1 : Int) (v1 : LC) (m : Nat) (K : KX) : awp C106 (L106 tables ahead s) ann106 (loopAt (bodyOf f106) 0) (⟨[(5, .adr TStep s), (8, .own 53 none), (9, .own 72 none), (10, dI i1)], [(53, .arr false TColumn ([] ++ (nth (t := TCS) ahead s.2.1))), (72, .arr false TColumn v1)]⟩ : St) (thenW (fun s' => ∃ m', m' < m ∧ (L106 tables ahead s) 1 m' s' K) (exitN 1 (ann106 (behind 1)) K)) =
 (cond (decide (i1 < (s.2.2.2.2.2.1.length : Int))) ((0 ≤ i1) ∧ (i1 < (s.2.2.2.2.2.1.length : Int)) ∧ cond (!(M.inR (nI s.2.2.2.2.2.1 i1) Z0 (wrap64 ((([] ++ (nth (t := TCS) ahead s.2.1)).length : Int) - Z1)))) (K .ret (⟨[(6, .own 90 none), (7, dB false)], [(90, .arr false TColumn [])]⟩ : St)) ((0 ≤ i1) ∧ (i1 < (s.2.2.2.2.2.1.length : Int)) ∧ (0 ≤ (nI s.2.2.2.2.2.1 i1)) ∧ ((nI s.2.2.2.2.2.1 i1) < (([] ++ (nth (t := TCS) ahead s.2.1)).length : Int)) ∧ ((v1.length + ([(nC ([] ++ (nth (t := TCS) ahead s.2.1)) (nI s.2.2.2.2.2.1 i1))] : List TColumn.D).length) * 16 ≤ lim) ∧ (∃ m_, m_ < m ∧ (L106 tables ahead s) 1 m_ (⟨[(5, .adr TStep s), (8, .own 53 none), (9, .own 72 none), (10, dI (wrap64 (i1 + Z1)))], [(53, .arr false TColumn ([] ++ (nth (t := TCS) ahead s.2.1))), (72, .arr false TColumn (v1 ++ [(nC ([] ++ (nth (t := TCS) ahead s.2.1)) (nI s.2.2.2.2.2.1 i1))]))]⟩ : St) K))) (K (.exit 1) (⟨[(9, .own 72 none)], [(72, .arr false TColumn v1)]⟩ : St))) := by kernel_rfl
theorem lvc106_1 (tables : LTb) (ahead : (List LC)) (s : (TStep).D)  (v3 : Int × LC) (m : Nat) (K : KX) : awp C106 (L106 tables ahead s) ann106 (loopAt (bodyOf f106) 1) (⟨[(1, .brw TCS ahead), (5, .adr TStep s), (8, .own 53 none), (12, dI v3.1)], [(53, .arr false TColumn v3.2)]⟩ : St) (thenW (fun s' => ∃ m', m' < m ∧ (L106 tables ahead s) 3 m' s' K) (exitN 3 (ann106 (behind 3)) K)) =
 (cond (decide (v3.1 < (v3.2.length : Int))) ((0 ≤ v3.1) ∧ (v3.1 < (v3.2.length : Int)) ∧ (0 ≤ s.2.2.1) ∧ (s.2.2.1 < (ahead.length : Int)) ∧ (0 ≤ v3.1) ∧ (v3.1 < ((nth (t := TCS) ahead s.2.2.1).length : Int)) ∧ cond (!decide ((nC v3.2 v3.1).1 = (nC (nth (t := TCS) ahead s.2.2.1) v3.1).1)) (K .ret (⟨[(6, .own 159 none), (7, dB false)], [(159, .arr false TColumn [])]⟩ : St)) ((0 ≤ v3.1) ∧ (v3.1 < (v3.2.length : Int)) ∧ cond ((((nC v3.2 v3.1).2).1) == false) ((0 ≤ s.2.2.1) ∧ (s.2.2.1 < (ahead.length : Int)) ∧ (0 ≤ v3.1) ∧ (v3.1 < ((nth (t := TCS) ahead s.2.2.1).length : Int)) ∧ (0 ≤ v3.1) ∧ (v3.1 < (v3.2.length : Int)) ∧ (let y_33_20 : LC := (v3.2.set v3.1.toNat ((nC v3.2 v3.1).1, (nC (nth (t := TCS) ahead s.2.2.1) v3.1).2)); (∃ m_, m_ < m ∧ (L106 tables ahead s) 3 m_ (⟨[(1, .brw TCS ahead), (5, .adr TStep s), (8, .own 53 none), (12, dI (wrap64 (v3.1 + Z1)))], [(53, .arr false TColumn y_33_20)]⟩ : St) K))) ((0 ≤ v3.1) ∧ (v3.1 < (v3.2.length : Int)) ∧ (∃ m_, m_ < m ∧ (L106 tables ahead s) 3 m_ (⟨[(1, .brw TCS ahead), (5, .adr TStep s), (8, .own 53 none), (12, dI (wrap64 (v3.1 + Z1)))], [(53, .arr false TColumn (v3.2.set v3.1.toNat ((nC v3.2 v3.1).1, (true, ()))))]⟩ : St) K)))) (K (.exit 3) (⟨[(8, .own 53 none)], [(53, .arr false TColumn v3.2)]⟩ : St))) := by kernel_rfl
theorem con106_ok : ConOk P 106 c106 := by
 refine con_okR (fn := f106) (code := bodyOf f106) (tab_ok tab_check cmp_check) consOk106 mixed func106 rfl rfl fun args hp K h0 => ?_
 obtain ⟨a0, a1, a2, rfl, rfl, h1⟩ := args3_elim h0
 obtain ⟨tables, rfl, h2⟩ := withD_elim h1
 obtain ⟨ahead, rfl, h3⟩ := withB_elim h2
 obtain ⟨s, rfl, h4⟩ := withD_elim h3
 obtain ⟨h_tables, h_ahead, h_s, hK⟩ := h4
 have h : ok (F.spec_l6Columns tables ahead s) (fun r => K (.tup [.data TCS r.1, dB r.2]) []) := ok_of_eq (F.spec_l6Columns_eq tables ahead s h_tables h_ahead h_s) (hK _ rfl)
 refine ⟨⟨show (3 : Nat) ≤ 185 by decide, show (3 : Nat) ≤ 1000000 by decide⟩, ann106, (L106 tables ahead s), (.tup [TCS, Ty.bool]), (loopsN2 (i0 := 1) (i1 := 3) (by kernel_rfl) ?_ ?_), ?_⟩
 ·clear h
  intro m_ s_ K_ h
  obtain ⟨hc1, i1, v1, rfl, hl1, rfl, hv1, h⟩ := (show LP106_1 tables ahead s m_ s_ K_ from h)
  rw [lvc106_0 tables ahead s i1 v1 _ K_]
  exact (loopE_step (t := TInt) hl1 h (fun ht1 h => ⟨hl1, ⟨ht1, (ok_cond h (fun b_22 h => (ok_ret h :)) (fun b_22 h => ⟨hl1, ⟨ht1, ⟨(inR_lo (bnf b_22)), ⟨(inR_hi (bnf b_22)), ⟨(ok_guard h).1, have h := (ok_guard h).2; (loopE_next (t := TInt) (fun m hm => (show LP106_1 tables ahead s m _ _ from ⟨hc1, hm⟩)) (v1 ++ [(nC ([] ++ (nth (t := TCS) ahead s.2.1)) (nI s.2.2.2.2.2.1 i1))]) rfl hl1 ht1 (sm_len h_s.2.2.2.2.2.1) trivial (ok_ret h :))⟩⟩⟩⟩⟩))⟩⟩) (fun h => (h trivial)))
 ·clear h
  intro m_ s_ K_ h
  obtain ⟨hc3, v3, rfl, hv3, h⟩ := (show LP106_3 tables ahead s m_ s_ K_ from h)
  rw [lvc106_1 tables ahead s v3 _ K_]
  exact (loopW_step h (fun m1 hm3 h => (ok_cond h (fun b_37 h => ⟨(ok_guard h).1, have g_38 := (ok_guard h).1; have h := (ok_guard h).2; ⟨(ok_guard h).1, have g_39 := (ok_guard h).1; have h := (ok_guard h).2; ⟨(ok_guard h).1, have g_40 := (ok_guard h).1; have h := (ok_guard h).2; ⟨(ok_guard h).1, have g_41 := (ok_guard h).1; have h := (ok_guard h).2; ⟨g_38, ⟨(ok_guard h).1, have g_42 := (ok_guard h).1; have h := (ok_guard h).2; (ok_cond h (fun b_43 h => (ok_ret h :)) (fun b_43 h => ⟨g_38, ⟨g_39, (ok_cond h (fun b_44 h => ⟨g_40, ⟨g_41, ⟨g_38, ⟨g_42, ⟨g_38, ⟨g_39, (let y_33_20 : LC := (v3.2.set v3.1.toNat ((nC v3.2 v3.1).1, (nC (nth (t := TCS) ahead s.2.2.1) v3.1).2)); have h := ok_let h y_33_20 rfl; (loopW_next (fun m hm => (show LP106_3 tables ahead s m _ _ from ⟨hc3, hm⟩)) hm3 (wrap64 (v3.1 + Z1), y_33_20) rfl trivial (ok_ret h :)))⟩⟩⟩⟩⟩⟩) (fun b_44 h => ⟨g_38, ⟨g_39, (loopW_next (fun m hm => (show LP106_3 tables ahead s m _ _ from ⟨hc3, hm⟩)) hm3 (wrap64 (v3.1 + Z1), (v3.2.set v3.1.toNat ((nC v3.2 v3.1).1, (true, ())))) rfl trivial (ok_ret h :))⟩⟩))⟩⟩))⟩⟩⟩⟩⟩⟩) (fun b_37 h => ((ok_ret h :) trivial)))))
 ·rw [vc106 tables ahead s K]
  exact ⟨h_s, (ok_cond h (fun b_1 h => (ok_ret h :)) (fun b_1 h => (ok_cond h (fun b_2 h => (ok_cond h (fun b_3 h => (ok_ret h :)) (fun b_3 h => ⟨(inR_lo (bnf b_3)), ⟨(inR_hi (bnf b_3)), ⟨(sm_lim2 (sm_nil TColumn) (sm_nth h_tables s.2.2.2.1).1 rfl), (ok_ret h :)⟩⟩⟩))) (fun b_2 h => (ok_cond h (fun b_4 h => (ok_cond h (fun b_5 h => (ok_ret h :)) (fun b_5 h => ⟨(inR_lo (bnf (bgt b_4))), ⟨(inR_hi (bnf (bgt b_4))), ⟨(sm_lim2 (sm_nil TColumn) (sm_nth h_ahead s.2.1) rfl), (ok_cond h (fun b_6 h => ⟨(ok_guard h).1, have h := (ok_guard h).2; ⟨h_s.2.2.2.2.1, (ok_ret h :)⟩⟩) (fun b_6 h => (ok_cond h (fun b_8 h => (loopE_start (t := TInt) (fun m hm => ⟨trivial, hm⟩) [] rfl trivial (ok_then h (fun v1 h hv1 => (ok_ret h :)) (fun q1 h => (ok_ret h :))))) (fun b_8 h => (ok_cond h (fun b_24 h => ⟨(inR_lo (bnf b_5)), ⟨(inR_hi (bnf b_5)), ⟨(ok_guard h).1, have h := (ok_guard h).2; (ok_cond h (fun b_26 h => ⟨(ok_guard h).1, have h := (ok_guard h).2; ⟨h_s.2.2.2.2.1, (ok_ret h :)⟩⟩) (fun b_26 h => (ok_ret h :)))⟩⟩⟩) (fun b_24 h => (ok_cond h (fun b_28 h => ⟨(inR_lo (bnf b_5)), ⟨(inR_hi (bnf b_5)), (ok_cond h (fun b_29 h => (ok_ret h :)) (fun b_29 h => (loopW_start (fun m hm => ⟨trivial, hm⟩) (Z0, ([] ++ (nth (t := TCS) ahead s.2.1))) rfl trivial (ok_then h (fun e3 h hv3 => (ok_ret h :)) (fun q3 h => (ok_ret h :))))))⟩⟩) (fun b_28 h => (ok_cond h (fun b_45 h => (ok_ret h :)) (fun b_45 h => (ok_ret h :)))))))))))⟩⟩⟩))) (fun b_4 h => (ok_ret h :)))))))⟩
def c107 : Con := ⟨[.lent TInt, .dat TStep], fun args hp K => args2 (fun a0 a1 => withB TInt a0 fun ahead => withD TStep a1 fun s => (Sm (Ty.sl TInt) ahead) ∧ (Sm TStep s) ∧ (M.stepIn (ahead.length : Int) s) ∧ K (dI (M.stepMost ahead s)) []) args hp, .plain⟩
def cons107 : Cons := []
@[reducible] def C107 : Ctx := ⟨tab, fun t => memN t cmps, cons107, 40, [], 0, false⟩
theorem consOk107 : ConsOk P C107 := by
 exact consOk_nil
def ann107 : Nat → List Dir
 | 0 => [.fixRow 3 TStep, .keep [0, 3]]
 | 1 => [.keep [0, 3, 6]]
 | 2 => [.keep [0, 3, 6, 7]]
 | 3 => [.keep [4]]
 | 4 => [.keep [0, 3, 6, 9]]
 | 5 => [.keep [4]]
 | 6 => [.keep [0, 3, 22]]
 | 7 => [.keep [4]]
 | 8 => [.keep [4]]
 | _ => []
def L107 (ahead : (List Int)) (s : (TStep).D) : Loops := fun id m st_ K => match id with
 | _ => False
theorem vc107 (ahead : (List Int)) (s : (TStep).D) (K : KA) : awp C107 (L107 ahead s) ann107 (bodyOf f107) ⟨argEnv 0 [.brw TInt ahead, .data TStep s], []⟩ (outK tab false f107.results.toList (hasBox []) (resK (.dat TInt) K)) =
 (cond (decide (s.1 = Z1)) (K (dI Z6) []) (cond (decide (s.1 = Z4)) ((0 ≤ s.2.1) ∧ (s.2.1 < (ahead.length : Int)) ∧ (0 ≤ s.2.2.1) ∧ (s.2.2.1 < (ahead.length : Int)) ∧ K (dI (wrap64 ((nI ahead s.2.1) * (nI ahead s.2.2.1)))) []) (cond (decide (s.1 = Z5)) ((0 ≤ s.2.1) ∧ (s.2.1 < (ahead.length : Int)) ∧ (0 ≤ s.2.2.1) ∧ (s.2.2.1 < (ahead.length : Int)) ∧ K (dI (wrap64 ((nI ahead s.2.1) + (nI ahead s.2.2.1)))) []) ((0 ≤ s.2.1) ∧ (s.2.1 < (ahead.length : Int)) ∧ K (dI (nI ahead s.2.1)) [])))) := by kernel_rfl
theorem con107_ok : ConOk P 107 c107 := by
 refine con_okR (fn := f107) (code := bodyOf f107) (tab_ok tab_check cmp_check) consOk107 mixed func107 rfl rfl fun args hp K h0 => ?_
 obtain ⟨a0, a1, rfl, rfl, h1⟩ := args2_elim h0
 obtain ⟨ahead, rfl, h2⟩ := withB_elim h1
 obtain ⟨s, rfl, h3⟩ := withD_elim h2
 obtain ⟨h_ahead, h_s, p0, hK⟩ := h3
 have h : ok (F.spec_l6Made ahead s) (fun r => K (dI r) []) := ok_of_eq (F.spec_l6Made_eq ahead s h_ahead h_s p0) hK
 refine ⟨⟨show (2 : Nat) ≤ 40 by decide, show (2 : Nat) ≤ 1000000 by decide⟩, ann107, (L107 ahead s), (.dat TInt), (no_loops (by kernel_rfl)), ?_⟩
 ·rw [vc107 ahead s K]
  exact (ok_cond h (fun b_1 h => (ok_ret h :)) (fun b_1 h => (ok_cond h (fun b_2 h => ⟨(ok_guard h).1, have h := (ok_guard h).2; ⟨(ok_guard h).1, have h := (ok_guard h).2; ⟨(ok_guard h).1, have h := (ok_guard h).2; ⟨(ok_guard h).1, have h := (ok_guard h).2; (ok_ret h :)⟩⟩⟩⟩) (fun b_2 h => (ok_cond h (fun b_7 h => ⟨(ok_guard h).1, have h := (ok_guard h).2; ⟨(ok_guard h).1, have h := (ok_guard h).2; ⟨(ok_guard h).1, have h := (ok_guard h).2; ⟨(ok_guard h).1, have h := (ok_guard h).2; (ok_ret h :)⟩⟩⟩⟩) (fun b_7 h => ⟨(ok_guard h).1, have h := (ok_guard h).2; ⟨(ok_guard h).1, have h := (ok_guard h).2; (ok_ret h :)⟩⟩))))))
def c63 : Con := ⟨[.dat TTb, .dat TSS], fun args hp K => args2 (fun a0 a1 => withD TTb a0 fun tables => withD TSS a1 fun plan => (Sm TTb tables) ∧ (Sm TSS plan) ∧ (∀ r : (List LC) × Bool, r = (M.planAll tables plan) → K (.tup [.data (Ty.sl TCS) r.1, dB r.2]) [])) args hp, .plain⟩
def cons63 : Cons := [(106, c106), (107, c107)]
@[reducible] def C63 : Ctx := ⟨tab, fun t => memN t cmps, cons63, 52, [], 0, false⟩
theorem consOk63 : ConsOk P C63 := by
 refine consOk_cons (enter_ok (fn := f106) func106 (by kernel_rfl) rfl) con106_ok ?_
 refine consOk_cons (enter_ok (fn := f107) func107 (by kernel_rfl) rfl) con107_ok ?_
 exact consOk_nil
def ann63 : Nat → List Dir
 | 0 => [.keep [0, 1]]
 | 1 => [.keep [0, 1, 6]]
 | 2 => [.keep [0, 1, 6, 7]]
 | 3 => [.keep [0, 1, 6, 7, 8]]
 | 4 => [.keep [0, 1, 6, 7, 8, 16]]
 | 5 => [.keep [0, 1, 6, 7, 8]]
 | 6 => [.keep [0, 1, 6, 7, 8, 9, 10]]
 | 7 => [.keep [0, 1, 6, 7, 8, 9, 30]]
 | 8 => [.freeze 31, .keep [4, 5]]
 | 9 => [.keep [0, 1, 6, 7, 8]]
 | 10 => [.keep [0, 1, 6, 7, 8]]
 | 11 => [.keep [0, 1, 6, 7, 8, 49]]
 | 12 => [.freeze 50, .keep [4, 5]]
 | 13 => [.keep [4, 5]]
 | 100000 => [.keep [6]]
 | _ => []
@[reducible] def LP63_0 (tables : LTb) (plan : LS) (m : Nat) (st_ : St) (K : KX) : Prop := (True) ∧ LoopI (fun (i0 : Int) (v0 : (List LC) × (List Int)) => (⟨[(0, .data TTb tables), (1, .data TSS plan), (6, .own 11 none), (7, .own 12 none), (8, dI i0)], [(11, .arr false TCS v0.1), (12, .arr false TInt v0.2)]⟩ : St)) Z0 (plan.length : Int) (F.spec_l6All_l0 tables plan) (fun v0 : (List LC) × (List Int) => True) (outD (fun v0 : (List LC) × (List Int) => True → K (.exit 0) (⟨[(6, .own 11 none)], [(11, .arr false TCS v0.1)]⟩ : St)) (fun q0 : Unit => K .ret (⟨[(4, .data (Ty.sl TCS) []), (5, dB false)], []⟩ : St))) m st_
def L63 (tables : LTb) (plan : LS) : Loops := fun id m st_ K => match id with
 | 0 => LP63_0 tables plan m st_ K
 | _ => False
theorem vc63 (tables : LTb) (plan : LS) (K : KA) : awp C63 (L63 tables plan) ann63 (bodyOf f63) ⟨argEnv 0 [.data TTb tables, .data TSS plan], []⟩ (outK tab false f63.results.toList (hasBox []) (resK (.tup [(Ty.sl TCS), Ty.bool]) K)) =
 ((∃ m_, (True) ∧ LoopI (fun (i0 : Int) (v0 : (List LC) × (List Int)) => (⟨[(0, .data TTb tables), (1, .data TSS plan), (6, .own 11 none), (7, .own 12 none), (8, dI i0)], [(11, .arr false TCS v0.1), (12, .arr false TInt v0.2)]⟩ : St)) Z0 (plan.length : Int) (F.spec_l6All_l0 tables plan) (fun v0 : (List LC) × (List Int) => True) (outD (fun v0 : (List LC) × (List Int) => True → K (.tup [.data (Ty.sl TCS) v0.1, dB true]) []) (fun q0 : Unit => K (.tup [.data (Ty.sl TCS) [], dB false]) [])) m_ (⟨[(0, .data TTb tables), (1, .data TSS plan), (6, .own 11 none), (7, .own 12 none), (8, dI Z0)], [(11, .arr false TCS []), (12, .arr false TInt [])]⟩ : St))) := by kernel_rfl
theorem lvc63_0 (tables : LTb) (plan : LS)  (i0 : Int) (v0 : (List LC) × (List Int)) (m : Nat) (K : KX) : awp C63 (L63 tables plan) ann63 (loopAt (bodyOf f63) 0) (⟨[(0, .data TTb tables), (1, .data TSS plan), (6, .own 11 none), (7, .own 12 none), (8, dI i0)], [(11, .arr false TCS v0.1), (12, .arr false TInt v0.2)]⟩ : St) (thenW (fun s' => ∃ m', m' < m ∧ (L63 tables plan) 0 m' s' K) (exitN 0 (ann63 (behind 0)) K)) =
 (cond (decide (i0 < (plan.length : Int))) ((0 ≤ i0) ∧ (i0 < (plan.length : Int)) ∧ (Sm TTb tables) ∧ (Sm (Ty.sl TCS) v0.1) ∧ (Sm TStep (nS plan i0)) ∧ (∀ r_6_6 : LC × Bool, r_6_6 = (M.l6Columns tables v0.1 (nS plan i0)) → cond (!r_6_6.2) (K .ret (⟨[(4, .data (Ty.sl TCS) []), (5, dB false)], []⟩ : St)) (((v0.1.length + [r_6_6.1].length) * 24 ≤ lim) ∧ (0 ≤ i0) ∧ (i0 < (plan.length : Int)) ∧ (Sm (Ty.sl TInt) v0.2) ∧ (Sm TStep (nS plan i0)) ∧ (M.stepIn (v0.2.length : Int) (nS plan i0)) ∧ ((v0.2.length + [(M.stepMost v0.2 (nS plan i0))].length) * 8 ≤ lim) ∧ (0 ≤ i0) ∧ (i0 < ((v0.2 ++ [(M.stepMost v0.2 (nS plan i0))]).length : Int)) ∧ cond (decide ((300 : Int) < (nI (v0.2 ++ [(M.stepMost v0.2 (nS plan i0))]) i0))) (K .ret (⟨[(4, .data (Ty.sl TCS) []), (5, dB false)], []⟩ : St)) ((∃ m_, m_ < m ∧ (L63 tables plan) 0 m_ (⟨[(0, .data TTb tables), (1, .data TSS plan), (6, .own 11 none), (7, .own 12 none), (8, dI (wrap64 (i0 + Z1)))], [(11, .arr false TCS (v0.1 ++ [r_6_6.1])), (12, .arr false TInt (v0.2 ++ [(M.stepMost v0.2 (nS plan i0))]))]⟩ : St) K))))) (K (.exit 0) (⟨[(6, .own 11 none)], [(11, .arr false TCS v0.1)]⟩ : St))) := by kernel_rfl
theorem con63_ok : ConOk P 63 c63 := by
 refine con_okR (fn := f63) (code := bodyOf f63) (tab_ok tab_check cmp_check) consOk63 mixed func63 rfl rfl fun args hp K h0 => ?_
 obtain ⟨a0, a1, rfl, rfl, h1⟩ := args2_elim h0
 obtain ⟨tables, rfl, h2⟩ := withD_elim h1
 obtain ⟨plan, rfl, h3⟩ := withD_elim h2
 obtain ⟨h_tables, h_plan, hK⟩ := h3
 have h : ok (F.spec_l6All tables plan) (fun r => K (.tup [.data (Ty.sl TCS) r.1, dB r.2]) []) := ok_of_eq (F.spec_l6All_eq tables plan h_tables h_plan) (hK _ rfl)
 refine ⟨⟨show (2 : Nat) ≤ 52 by decide, show (2 : Nat) ≤ 1000000 by decide⟩, ann63, (L63 tables plan), (.tup [(Ty.sl TCS), Ty.bool]), (loopsN1 (i0 := 0) (by kernel_rfl) ?_), ?_⟩
 ·clear h
  intro m_ s_ K_ h
  obtain ⟨hc0, i0, v0, rfl, hl0, rfl, hv0, h⟩ := (show LP63_0 tables plan m_ s_ K_ from h)
  rw [lvc63_0 tables plan i0 v0 _ K_]
  exact (loopI_step h (fun ht0 h => ⟨hl0, ⟨ht0, ⟨h_tables, ⟨(ok_guard h).1, have h := (ok_guard h).2; ⟨(sm_nth h_plan i0), (fun r_6_6 e_r_6_6 => have h := ok_let h r_6_6 e_r_6_6; (ok_cond h (fun b_29 h => (ok_ret h :)) (fun b_29 h => ⟨(ok_guard h).1, have h := (ok_guard h).2; ⟨hl0, ⟨ht0, ⟨(ok_guard h).1, have h := (ok_guard h).2; ⟨(sm_nth h_plan i0), ⟨(ok_guard h).1, have h := (ok_guard h).2; ⟨(ok_guard h).1, have h := (ok_guard h).2; ⟨hl0, ⟨(ok_guard h).1, have h := (ok_guard h).2; (ok_cond h (fun b_35 h => (ok_ret h :)) (fun b_35 h => (loopI_next (fun m hm => (show LP63_0 tables plan m _ _ from ⟨hc0, hm⟩)) ((v0.1 ++ [r_6_6.1]), (v0.2 ++ [(M.stepMost v0.2 (nS plan i0))])) rfl hl0 low0 ht0 (sm_len h_plan) trivial (ok_ret h :))))⟩⟩⟩⟩⟩⟩⟩⟩⟩)))⟩⟩⟩⟩⟩) (fun h => (h trivial)))
 ·rw [vc63 tables plan K]
  exact (loopI_start (fun m hm => ⟨trivial, hm⟩) Z0 ([], []) rfl (Int.natCast_nonneg 0) trivial (ok_then h (fun v0 h hv0 => (ok_ret h :)) (fun q0 h => (ok_ret h :))))
def c190 : Con := ⟨[.dat TVS], fun args hp K => args1 (fun a0 => withD TVS a0 fun row => (Sm TVS row) ∧ K (dB (M.rowOk row)) []) args hp, .plain⟩
def cons190 : Cons := [(157, c157)]
@[reducible] def C190 : Ctx := ⟨tab, fun t => memN t cmps, cons190, 19, [], 0, false⟩
theorem consOk190 : ConsOk P C190 := by
 refine consOk_cons (enter_ok (fn := f157) func157 (by kernel_rfl) rfl) con157_ok ?_
 exact consOk_nil
def ann190 : Nat → List Dir
 | 0 => [.keep [0]]
 | 1 => [.keep [0, 3]]
 | 2 => [.keep [0, 3, 7]]
 | 3 => [.keep [0, 3]]
 | 4 => [.keep [0, 3, 15]]
 | 5 => [.keep [2]]
 | 6 => [.keep [2]]
 | 100000 => [.keep [0]]
 | _ => []
@[reducible] def LP190_0 (row : LV) (m : Nat) (st_ : St) (K : KX) : Prop := (True) ∧ LoopE (t := TValue) (fun (i0 : Int) (v0 : Unit) => (⟨[(0, .data TVS row), (3, dI i0)], []⟩ : St)) row (F.spec_RowOk_l0 row) (fun v0 : Unit => True) (outD (fun v0 : Unit => True → K (.exit 0) (⟨[(0, .data TVS row)], []⟩ : St)) (fun q0 : Unit => K .ret (⟨[(2, dB false)], []⟩ : St))) m st_
def L190 (row : LV) : Loops := fun id m st_ K => match id with
 | 0 => LP190_0 row m st_ K
 | _ => False
theorem vc190 (row : LV) (K : KA) : awp C190 (L190 row) ann190 (bodyOf f190) ⟨argEnv 0 [.data TVS row], []⟩ (outK tab false f190.results.toList (hasBox []) (resK (.dat Ty.bool) K)) =
 ((∃ m_, (True) ∧ LoopE (t := TValue) (fun (i0 : Int) (v0 : Unit) => (⟨[(0, .data TVS row), (3, dI i0)], []⟩ : St)) row (F.spec_RowOk_l0 row) (fun v0 : Unit => True) (outD (fun v0 : Unit => True → K (dB (decide ((row.length : Int) ≤ Z4))) []) (fun q0 : Unit => K (dB false) [])) m_ (⟨[(0, .data TVS row), (3, dI Z0)], []⟩ : St))) := by kernel_rfl
theorem lvc190_0 (row : LV)  (i0 : Int) (v0 : Unit) (m : Nat) (K : KX) : awp C190 (L190 row) ann190 (loopAt (bodyOf f190) 0) (⟨[(0, .data TVS row), (3, dI i0)], []⟩ : St) (thenW (fun s' => ∃ m', m' < m ∧ (L190 row) 0 m' s' K) (exitN 0 (ann190 (behind 0)) K)) =
 (cond (decide (i0 < (row.length : Int))) ((0 ≤ i0) ∧ (i0 < (row.length : Int)) ∧ (Sm TValue (nV row i0)) ∧ cond (!(M.valueOk (nV row i0))) (K .ret (⟨[(2, dB false)], []⟩ : St)) ((∃ m_, m_ < m ∧ (L190 row) 0 m_ (⟨[(0, .data TVS row), (3, dI (wrap64 (i0 + Z1)))], []⟩ : St) K))) (K (.exit 0) (⟨[(0, .data TVS row)], []⟩ : St))) := by kernel_rfl
theorem con190_ok : ConOk P 190 c190 := by
 refine con_okR (fn := f190) (code := bodyOf f190) (tab_ok tab_check cmp_check) consOk190 mixed func190 rfl rfl fun args hp K h0 => ?_
 obtain ⟨a0, rfl, rfl, h1⟩ := args1_elim h0
 obtain ⟨row, rfl, h2⟩ := withD_elim h1
 obtain ⟨h_row, hK⟩ := h2
 have h : ok (F.spec_RowOk row) (fun r => K (dB r) []) := ok_of_eq (F.spec_RowOk_eq row h_row) hK
 refine ⟨⟨show (1 : Nat) ≤ 19 by decide, show (1 : Nat) ≤ 1000000 by decide⟩, ann190, (L190 row), (.dat Ty.bool), (loopsN1 (i0 := 0) (by kernel_rfl) ?_), ?_⟩
 ·clear h
  intro m_ s_ K_ h
  obtain ⟨hc0, i0, v0, rfl, hl0, rfl, hv0, h⟩ := (show LP190_0 row m_ s_ K_ from h)
  rw [lvc190_0 row i0 v0 _ K_]
  exact (loopE_step (t := TValue) hl0 h (fun ht0 h => ⟨hl0, ⟨ht0, ⟨(sm_nth h_row i0), (ok_cond h (fun b_9 h => (ok_ret h :)) (fun b_9 h => (loopE_next (t := TValue) (fun m hm => (show LP190_0 row m _ _ from ⟨hc0, hm⟩)) () rfl hl0 ht0 (sm_len h_row) trivial (ok_ret h :))))⟩⟩⟩) (fun h => (h trivial)))
 ·rw [vc190 row K]
  exact (loopE_start (t := TValue) (fun m hm => ⟨trivial, hm⟩) () rfl trivial (ok_then h (fun v0 h hv0 => (ok_ret h :)) (fun q0 h => (ok_ret h :))))
def c153 : Con := ⟨[.dat TCS, .dat TVS], fun args hp K => args2 (fun a0 a1 => withD TCS a0 fun columns => withD TVS a1 fun row => (Sm TCS columns) ∧ (Sm TVS row) ∧ K (dB (M.rowFits columns row)) []) args hp, .plain⟩
def cons153 : Cons := [(126, c126), (190, c190)]
@[reducible] def C153 : Ctx := ⟨tab, fun t => memN t cmps, cons153, 54, [], 0, false⟩
theorem consOk153 : ConsOk P C153 := by
 refine consOk_cons (enter_ok (fn := f126) func126 (by kernel_rfl) rfl) con126_ok ?_
 refine consOk_cons (enter_ok (fn := f190) func190 (by kernel_rfl) rfl) con190_ok ?_
 exact consOk_nil
def ann153 : Nat → List Dir
 | 0 => [.keep [0, 1]]
 | 1 => [.keep [0, 1, 20]]
 | 2 => [.keep [4]]
 | 3 => [.keep [0, 1, 5]]
 | 4 => [.keep [0, 1, 5, 24]]
 | 5 => [.keep [0, 1, 5]]
 | 6 => [.keep [0, 1, 5, 53]]
 | 7 => [.keep [4]]
 | 8 => [.keep [4]]
 | 100000 => [.keep []]
 | _ => []
@[reducible] def LP153_0 (columns : LC) (row : LV) (m : Nat) (st_ : St) (K : KX) : Prop := (True) ∧ LoopI (fun (i0 : Int) (v0 : Unit) => (⟨[(0, .data TCS columns), (1, .data TVS row), (5, dI i0)], []⟩ : St)) Z0 (row.length : Int) (F.spec_RowFits_l0 columns row) (fun v0 : Unit => True) (outD (fun v0 : Unit => True → K (.exit 0) (⟨[], []⟩ : St)) (fun q0 : Unit => K .ret (⟨[(4, dB false)], []⟩ : St))) m st_
def L153 (columns : LC) (row : LV) : Loops := fun id m st_ K => match id with
 | 0 => LP153_0 columns row m st_ K
 | _ => False
theorem vc153 (columns : LC) (row : LV) (K : KA) : awp C153 (L153 columns row) ann153 (bodyOf f153) ⟨argEnv 0 [.data TCS columns, .data TVS row], []⟩ (outK tab false f153.results.toList (hasBox []) (resK (.dat Ty.bool) K)) =
 ((Sm TCS columns) ∧ cond ((!(M.columnsOk columns)) == false) ((Sm TVS row) ∧ cond ((!(M.rowOk row)) == false) (cond (!decide ((row.length : Int) = (columns.length : Int))) (K (dB false) []) ((∃ m_, (True) ∧ LoopI (fun (i0 : Int) (v0 : Unit) => (⟨[(0, .data TCS columns), (1, .data TVS row), (5, dI i0)], []⟩ : St)) Z0 (row.length : Int) (F.spec_RowFits_l0 columns row) (fun v0 : Unit => True) (outD (fun v0 : Unit => True → K (dB true) []) (fun q0 : Unit => K (dB false) [])) m_ (⟨[(0, .data TCS columns), (1, .data TVS row), (5, dI Z0)], []⟩ : St)))) (K (dB false) [])) (K (dB false) [])) := by kernel_rfl
@[reducible] def S153l0_0 (columns : LC) (row : LV)  (i0 : Int) (v0 : Unit) (m : Nat) (K : KX) : Prop := (∃ m_, m_ < m ∧ (L153 columns row) 0 m_ (⟨[(0, .data TCS columns), (1, .data TVS row), (5, dI (wrap64 (i0 + Z1)))], []⟩ : St) K)
theorem lvc153_0 (columns : LC) (row : LV)  (i0 : Int) (v0 : Unit) (m : Nat) (K : KX) : awp C153 (L153 columns row) ann153 (loopAt (bodyOf f153) 0) (⟨[(0, .data TCS columns), (1, .data TVS row), (5, dI i0)], []⟩ : St) (thenW (fun s' => ∃ m', m' < m ∧ (L153 columns row) 0 m' s' K) (exitN 0 (ann153 (behind 0)) K)) =
 (cond (decide (i0 < (row.length : Int))) ((0 ≤ i0) ∧ (i0 < (row.length : Int)) ∧ (0 ≤ i0) ∧ (i0 < (columns.length : Int)) ∧ cond ((!decide ((nV row i0).1 = (nC columns i0).1)) == true) ((0 ≤ i0) ∧ (i0 < (row.length : Int)) ∧ cond ((!decide ((nV row i0).1 = Z0)) == false) ((0 ≤ i0) ∧ (i0 < (columns.length : Int)) ∧ cond (!(((nC columns i0).2).1)) (K .ret (⟨[(4, dB false)], []⟩ : St)) ((S153l0_0  columns row i0 v0 m K))) (K .ret (⟨[(4, dB false)], []⟩ : St))) ((S153l0_0  columns row i0 v0 m K))) (K (.exit 0) (⟨[], []⟩ : St))) := by kernel_rfl
theorem con153_ok : ConOk P 153 c153 := by
 refine con_okR (fn := f153) (code := bodyOf f153) (tab_ok tab_check cmp_check) consOk153 mixed func153 rfl rfl fun args hp K h0 => ?_
 obtain ⟨a0, a1, rfl, rfl, h1⟩ := args2_elim h0
 obtain ⟨columns, rfl, h2⟩ := withD_elim h1
 obtain ⟨row, rfl, h3⟩ := withD_elim h2
 obtain ⟨h_columns, h_row, hK⟩ := h3
 have h : ok (F.spec_RowFits columns row) (fun r => K (dB r) []) := ok_of_eq (F.spec_RowFits_eq columns row h_columns h_row) hK
 refine ⟨⟨show (2 : Nat) ≤ 54 by decide, show (2 : Nat) ≤ 1000000 by decide⟩, ann153, (L153 columns row), (.dat Ty.bool), (loopsN1 (i0 := 0) (by kernel_rfl) ?_), ?_⟩
 ·clear h
  intro m_ s_ K_ h
  obtain ⟨hc0, i0, v0, rfl, hl0, rfl, hv0, h⟩ := (show LP153_0 columns row m_ s_ K_ from h)
  rw [lvc153_0 columns row i0 v0 _ K_]
  exact (loopI_step h (fun ht0 h => ⟨hl0, ⟨ht0, ⟨hl0, ⟨(ok_guard h).1, have g_18 := (ok_guard h).1; have h := (ok_guard h).2; (ok_cond h (fun b_19 h => ⟨hl0, ⟨ht0, (ok_cond h (fun b_20 h => ⟨hl0, ⟨g_18, (ok_cond h (fun b_21 h => (ok_ret h :)) (fun b_21 h => (loopI_next (fun m hm => (show LP153_0 columns row m _ _ from ⟨hc0, hm⟩)) () rfl hl0 low0 ht0 (sm_len h_row) trivial (ok_ret h :))))⟩⟩) (fun b_20 h => (ok_ret h :)))⟩⟩) (fun b_19 h => (loopI_next (fun m hm => (show LP153_0 columns row m _ _ from ⟨hc0, hm⟩)) () rfl hl0 low0 ht0 (sm_len h_row) trivial (ok_ret h :))))⟩⟩⟩⟩) (fun h => (h trivial)))
 ·rw [vc153 columns row K]
  exact ⟨h_columns, (ok_cond h (fun b_1 h => ⟨h_row, (ok_cond h (fun b_2 h => (ok_cond h (fun b_3 h => (ok_ret h :)) (fun b_3 h => (loopI_start (fun m hm => ⟨trivial, hm⟩) Z0 () rfl (Int.natCast_nonneg 0) trivial (ok_then h (fun v0 h hv0 => (ok_ret h :)) (fun q0 h => (ok_ret h :))))))) (fun b_2 h => (ok_ret h :)))⟩) (fun b_1 h => (ok_ret h :)))⟩
def c119 : Con := ⟨[.dat TCS, .dat (Ty.sl TVS)], fun args hp K => args2 (fun a0 a1 => withD TCS a0 fun columns => withD (Ty.sl TVS) a1 fun rows => (Sm TCS columns) ∧ (Sm (Ty.sl TVS) rows) ∧ K (dB (M.rowsOk columns rows)) []) args hp, .plain⟩
def cons119 : Cons := [(126, c126), (153, c153)]
@[reducible] def C119 : Ctx := ⟨tab, fun t => memN t cmps, cons119, 21, [], 0, false⟩
theorem consOk119 : ConsOk P C119 := by
 refine consOk_cons (enter_ok (fn := f126) func126 (by kernel_rfl) rfl) con126_ok ?_
 refine consOk_cons (enter_ok (fn := f153) func153 (by kernel_rfl) rfl) con153_ok ?_
 exact consOk_nil
def ann119 : Nat → List Dir
 | 0 => [.keep [0, 1]]
 | 1 => [.keep [0, 1, 5]]
 | 2 => [.keep [0, 1, 5, 9]]
 | 3 => [.keep [0, 1, 5]]
 | 4 => [.keep [0, 1, 5, 18]]
 | 5 => [.keep [4]]
 | 6 => [.keep [4]]
 | 100000 => [.keep [0]]
 | _ => []
@[reducible] def LP119_0 (columns : LC) (rows : (List LV)) (m : Nat) (st_ : St) (K : KX) : Prop := (True) ∧ LoopE (t := TVS) (fun (i0 : Int) (v0 : Unit) => (⟨[(0, .data TCS columns), (1, .data (Ty.sl TVS) rows), (5, dI i0)], []⟩ : St)) rows (F.spec_RowsOk_l0 columns rows) (fun v0 : Unit => True) (outD (fun v0 : Unit => True → K (.exit 0) (⟨[(0, .data TCS columns)], []⟩ : St)) (fun q0 : Unit => K .ret (⟨[(4, dB false)], []⟩ : St))) m st_
def L119 (columns : LC) (rows : (List LV)) : Loops := fun id m st_ K => match id with
 | 0 => LP119_0 columns rows m st_ K
 | _ => False
theorem vc119 (columns : LC) (rows : (List LV)) (K : KA) : awp C119 (L119 columns rows) ann119 (bodyOf f119) ⟨argEnv 0 [.data TCS columns, .data (Ty.sl TVS) rows], []⟩ (outK tab false f119.results.toList (hasBox []) (resK (.dat Ty.bool) K)) =
 ((∃ m_, (True) ∧ LoopE (t := TVS) (fun (i0 : Int) (v0 : Unit) => (⟨[(0, .data TCS columns), (1, .data (Ty.sl TVS) rows), (5, dI i0)], []⟩ : St)) rows (F.spec_RowsOk_l0 columns rows) (fun v0 : Unit => True) (outD (fun v0 : Unit => True → (Sm TCS columns) ∧ K (dB (M.columnsOk columns)) []) (fun q0 : Unit => K (dB false) [])) m_ (⟨[(0, .data TCS columns), (1, .data (Ty.sl TVS) rows), (5, dI Z0)], []⟩ : St))) := by kernel_rfl
theorem lvc119_0 (columns : LC) (rows : (List LV))  (i0 : Int) (v0 : Unit) (m : Nat) (K : KX) : awp C119 (L119 columns rows) ann119 (loopAt (bodyOf f119) 0) (⟨[(0, .data TCS columns), (1, .data (Ty.sl TVS) rows), (5, dI i0)], []⟩ : St) (thenW (fun s' => ∃ m', m' < m ∧ (L119 columns rows) 0 m' s' K) (exitN 0 (ann119 (behind 0)) K)) =
 (cond (decide (i0 < (rows.length : Int))) ((0 ≤ i0) ∧ (i0 < (rows.length : Int)) ∧ (Sm TCS columns) ∧ (Sm TVS (nth (t := TVS) rows i0)) ∧ cond (!(M.rowFits columns (nth (t := TVS) rows i0))) (K .ret (⟨[(4, dB false)], []⟩ : St)) ((∃ m_, m_ < m ∧ (L119 columns rows) 0 m_ (⟨[(0, .data TCS columns), (1, .data (Ty.sl TVS) rows), (5, dI (wrap64 (i0 + Z1)))], []⟩ : St) K))) (K (.exit 0) (⟨[(0, .data TCS columns)], []⟩ : St))) := by kernel_rfl
theorem con119_ok : ConOk P 119 c119 := by
 refine con_okR (fn := f119) (code := bodyOf f119) (tab_ok tab_check cmp_check) consOk119 mixed func119 rfl rfl fun args hp K h0 => ?_
 obtain ⟨a0, a1, rfl, rfl, h1⟩ := args2_elim h0
 obtain ⟨columns, rfl, h2⟩ := withD_elim h1
 obtain ⟨rows, rfl, h3⟩ := withD_elim h2
 obtain ⟨h_columns, h_rows, hK⟩ := h3
 have h : ok (F.spec_RowsOk columns rows) (fun r => K (dB r) []) := ok_of_eq (F.spec_RowsOk_eq columns rows h_columns h_rows) hK
 refine ⟨⟨show (2 : Nat) ≤ 21 by decide, show (2 : Nat) ≤ 1000000 by decide⟩, ann119, (L119 columns rows), (.dat Ty.bool), (loopsN1 (i0 := 0) (by kernel_rfl) ?_), ?_⟩
 ·clear h
  intro m_ s_ K_ h
  obtain ⟨hc0, i0, v0, rfl, hl0, rfl, hv0, h⟩ := (show LP119_0 columns rows m_ s_ K_ from h)
  rw [lvc119_0 columns rows i0 v0 _ K_]
  exact (loopE_step (t := TVS) hl0 h (fun ht0 h => ⟨hl0, ⟨ht0, ⟨h_columns, ⟨(sm_nth h_rows i0), (ok_cond h (fun b_9 h => (ok_ret h :)) (fun b_9 h => (loopE_next (t := TVS) (fun m hm => (show LP119_0 columns rows m _ _ from ⟨hc0, hm⟩)) () rfl hl0 ht0 (sm_len h_rows) trivial (ok_ret h :))))⟩⟩⟩⟩) (fun h => (h trivial)))
 ·rw [vc119 columns rows K]
  exact (loopE_start (t := TVS) (fun m hm => ⟨trivial, hm⟩) () rfl trivial (ok_then h (fun v0 h hv0 => ⟨h_columns, (ok_ret h :)⟩) (fun q0 h => (ok_ret h :))))
end Go.AE
