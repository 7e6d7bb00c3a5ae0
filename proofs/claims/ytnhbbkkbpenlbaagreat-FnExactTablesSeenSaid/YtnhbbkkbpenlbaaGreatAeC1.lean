/- Contracts. -/
import Derived.Test.YtnhbbkkbpenlbaaGreatAeSeat
import Derived.Test.YtnhbbkkbpenlbaaGreatAeEq
import Derived.Test.YtnhbbkkbpenlbaaGreatAeInl
import Derived.Test.YtnhbbkkbpenlbaaGreatAeC0
namespace Go.AE
open Go Go.RowKit Go.Proofs.Tryz
set_option maxRecDepth 100000
set_option linter.unusedVariables false

/-! 196: slices.IndexFunc[[]loop.example/tablehouse/impl.Column,loop.example/tablehouse/impl.Column] -/
def c196 : Con := ⟨[.lent TColumn, .any], fun args hp K => args2 (fun a0 a1 => withB TColumn a0 fun xs => withF 167 a1 (caps0 ((Sm (Ty.sl TColumn) xs) ∧ K (.data TInt (M.idx (t := TColumn) (fun e => !M.columnOk e) xs)) []))) args hp, .plain⟩
def cons196 : Cons := [(167, c167)]
def inl196 : List (Nat × Inl) := []
@[reducible] def C196 : Ctx := ⟨tab, fun t => memN t cmps, cons196, 19, inl196, 0, false⟩
theorem consOk196 : ConsOk P C196 := by
  refine consOk_cons (enter_ok (fn := f167) func167 (by kernel_rfl) rfl) con167_ok ?_
  exact consOk_nil
def ann196 : Nat → List Dir
  | 0 => [.keep [0, 1]]
  | 1 => [.keep [0, 1, 7, 8]]
  | 2 => [.keep [0, 1, 7, 8, 9]]
  | 3 => [.keep [0, 1, 5, 7, 8]]
  | 4 => [.keep [0, 1, 5, 7, 8, 16]]
  | 5 => [.keep [4]]
  | 6 => [.keep [0, 1, 7, 8]]
  | 7 => [.keep [4]]
  | 100000 => [.keep []]
  | _ => []
@[reducible] def LP196_0 (xs : (List (TColumn).D)) (m : Nat) (st_ : St) (K : X → St → Prop) : Prop := (True) ∧ LoopI (fun (i0 : Int) (v0 : Unit) => (⟨[(0, .brw TColumn xs), (1, .fn 167 []), (7, .data TInt (xs.length : Int)), (8, .data TInt i0)], []⟩ : St)) (0 : Int) (xs.length : Int) (F.IndexFunc_impl_ColumnsOk_1_l0 xs) (fun v0 : Unit => True) (outD (fun v0 : Unit => True → K (.exit 0) (⟨[], []⟩ : St)) (fun q0 : Int => K .ret (⟨[(4, .data TInt q0)], []⟩ : St))) m st_
def L196 (xs : (List (TColumn).D)) : Loops := fun id m st_ K => match id with
  | 0 => LP196_0 xs m st_ K
  | _ => False
theorem vc196 (xs : (List (TColumn).D)) (K : AV → Hp → Prop) : awp C196 (L196 xs) ann196 (bodyOf f196) ⟨argEnv 0 [.brw TColumn xs, .fn 167 []], []⟩ (outK tab false f196.results.toList (hasBox []) (resK (.dat TInt) K)) =
  ((∃ m_, (True) ∧ LoopI (fun (i0 : Int) (v0 : Unit) => (⟨[(0, .brw TColumn xs), (1, .fn 167 []), (7, .data TInt (xs.length : Int)), (8, .data TInt i0)], []⟩ : St)) (0 : Int) (xs.length : Int) (F.IndexFunc_impl_ColumnsOk_1_l0 xs) (fun v0 : Unit => True) (outD (fun v0 : Unit => True → K (.data TInt (-1 : Int)) []) (fun q0 : Int => K (.data TInt q0) [])) m_ (⟨[(0, .brw TColumn xs), (1, .fn 167 []), (7, .data TInt (xs.length : Int)), (8, .data TInt (0 : Int))], []⟩ : St))) := by kernel_rfl
theorem lvc196_0 (xs : (List (TColumn).D))  (i0 : Int) (v0 : Unit) (m : Nat) (K : X → St → Prop) : awp C196 (L196 xs) ann196 (loopAt (bodyOf f196) 0) (⟨[(0, .brw TColumn xs), (1, .fn 167 []), (7, .data TInt (xs.length : Int)), (8, .data TInt i0)], []⟩ : St) (thenW (fun s' => ∃ m', m' < m ∧ (L196 xs) 0 m' s' K) (exitN 0 (ann196 (behind 0)) K)) =
  (cond (decide (i0 < (xs.length : Int))) ((0 ≤ i0) ∧ (i0 < (xs.length : Int)) ∧ cond (!M.columnOk (nth (t := TColumn) xs i0)) (K .ret (⟨[(4, .data TInt i0)], []⟩ : St)) ((∃ m_, m_ < m ∧ (L196 xs) 0 m_ (⟨[(0, .brw TColumn xs), (1, .fn 167 []), (7, .data TInt (xs.length : Int)), (8, .data TInt (wrap64 (i0 + (1 : Int))))], []⟩ : St) K))) (K (.exit 0) (⟨[], []⟩ : St))) := by kernel_rfl
theorem con196_ok : ConOk P 196 c196 := by
  refine con_okR (fn := f196) (code := bodyOf f196) (tab_ok tab_check cmp_check) consOk196 mixed func196 rfl rfl fun args hp K h0 => ?_
  obtain ⟨a0, a1, rfl, rfl, h1⟩ := args2_elim h0
  obtain ⟨xs, rfl, h2⟩ := withB_elim h1
  obtain ⟨cs1, rfl, h3⟩ := withF_elim h2
  obtain ⟨rfl, h4⟩ := caps0_elim h3
  obtain ⟨h_xs, hK⟩ := h4
  have h : ok (F.IndexFunc_impl_ColumnsOk_1 xs) (fun r => K (.data TInt r) []) := ok_of_eq (F.IndexFunc_impl_ColumnsOk_1_eq xs h_xs) hK
  refine ⟨⟨show (2 : Nat) ≤ 19 by decide, show (2 : Nat) ≤ 1000000 by decide⟩, ann196, (L196 xs), (.dat TInt), (loopsN1 (i0 := 0) (by kernel_rfl) ?_), ?_⟩
  · clear h
    intro m_ s_ K_ h
    obtain ⟨hc0, i0, v0, rfl, hl0, rfl, hv0, h⟩ := (show LP196_0 xs m_ s_ K_ from h)
    rw [lvc196_0 xs i0 v0 _ K_]
    exact (loopI_step h (fun ht0 h => ⟨hl0, ⟨ht0, (ok_cond h (fun b_9 h => (have h := ok_ret h; h)) (fun b_9 h => (loopI_next (fun m hm => (show LP196_0 xs m _ _ from ⟨hc0, hm⟩)) () rfl hl0 low0 ht0 (sm_len h_xs) trivial (have h := ok_ret h; h))))⟩⟩) (fun h => (h trivial)))
  · rw [vc196 xs K]
    exact (loopI_start (fun m hm => ⟨trivial, hm⟩) (0 : Int) () rfl (Int.natCast_nonneg 0) trivial (ok_then h (fun v0 h hv0 => (have h := ok_ret h; h)) (fun q0 h => (have h := ok_ret h; h))))

/-! 166: slices.ContainsFunc[[]loop.example/tablehouse/impl.Column,loop.example/tablehouse/impl.Column] -/
def c166 : Con := ⟨[.lent TColumn, .any], fun args hp K => args2 (fun a0 a1 => withB TColumn a0 fun xs => withF 167 a1 (caps0 ((Sm (Ty.sl TColumn) xs) ∧ K (.data Ty.bool (List.any xs (fun e => !M.columnOk e))) []))) args hp, .plain⟩
def cons166 : Cons := [(167, c167), (196, c196)]
def inl166 : List (Nat × Inl) := []
@[reducible] def C166 : Ctx := ⟨tab, fun t => memN t cmps, cons166, 9, inl166, 0, false⟩
theorem consOk166 : ConsOk P C166 := by
  refine consOk_cons (enter_ok (fn := f167) func167 (by kernel_rfl) rfl) con167_ok ?_
  refine consOk_cons (enter_ok (fn := f196) func196 (by kernel_rfl) rfl) con196_ok ?_
  exact consOk_nil
def ann166 : Nat → List Dir
  | 0 => [.keep [0, 1]]
  | 1 => [.keep [4]]
  | _ => []
def L166 (xs : (List (TColumn).D)) : Loops := fun id m st_ K => match id with
  | _ => False
theorem vc166 (xs : (List (TColumn).D)) (K : AV → Hp → Prop) : awp C166 (L166 xs) ann166 (bodyOf f166) ⟨argEnv 0 [.brw TColumn xs, .fn 167 []], []⟩ (outK tab false f166.results.toList (hasBox []) (resK (.dat Ty.bool) K)) =
  ((Sm (Ty.sl TColumn) xs) ∧ K (.data Ty.bool (decide ((0 : Int) ≤ (M.idx (t := TColumn) (fun e => !M.columnOk e) xs)))) []) := by kernel_rfl
theorem con166_ok : ConOk P 166 c166 := by
  refine con_okR (fn := f166) (code := bodyOf f166) (tab_ok tab_check cmp_check) consOk166 mixed func166 rfl rfl fun args hp K h0 => ?_
  obtain ⟨a0, a1, rfl, rfl, h1⟩ := args2_elim h0
  obtain ⟨xs, rfl, h2⟩ := withB_elim h1
  obtain ⟨cs1, rfl, h3⟩ := withF_elim h2
  obtain ⟨rfl, h4⟩ := caps0_elim h3
  obtain ⟨h_xs, hK⟩ := h4
  have h : ok (F.ContainsFunc_impl_ColumnsOk_1 xs) (fun r => K (.data Ty.bool r) []) := ok_of_eq (F.ContainsFunc_impl_ColumnsOk_1_eq xs h_xs) hK
  refine ⟨⟨show (2 : Nat) ≤ 9 by decide, show (2 : Nat) ≤ 1000000 by decide⟩, ann166, (L166 xs), (.dat Ty.bool), (no_loops (by kernel_rfl)), ?_⟩
  · rw [vc166 xs K]
    exact ⟨h_xs, (have h := ok_ret h; h)⟩

/-! 131: loop.example/tablehouse/impl.ColumnsOk -/
def c131 : Con := ⟨[.dat (Ty.sl TColumn)], fun args hp K => args1 (fun a0 => withD (Ty.sl TColumn) a0 fun columns => (Sm (Ty.sl TColumn) columns) ∧ K (.data Ty.bool (M.columnsOk columns)) []) args hp, .plain⟩
def cons131 : Cons := [(166, c166)]
def inl131 : List (Nat × Inl) := []
@[reducible] def C131 : Ctx := ⟨tab, fun t => memN t cmps, cons131, 11, inl131, 0, false⟩
theorem consOk131 : ConsOk P C131 := by
  refine consOk_cons (enter_ok (fn := f166) func166 (by kernel_rfl) rfl) con166_ok ?_
  exact consOk_nil
def ann131 : Nat → List Dir
  | 0 => [.keep [0]]
  | 1 => [.keep [2]]
  | _ => []
def L131 (columns : (List (TColumn).D)) : Loops := fun id m st_ K => match id with
  | _ => False
theorem vc131 (columns : (List (TColumn).D)) (K : AV → Hp → Prop) : awp C131 (L131 columns) ann131 (bodyOf f131) ⟨argEnv 0 [.data (Ty.sl TColumn) columns], []⟩ (outK tab false f131.results.toList (hasBox []) (resK (.dat Ty.bool) K)) =
  (cond ((decide ((columns.length : Int) ≤ (4 : Int))) == true) ((Sm (Ty.sl TColumn) columns) ∧ K (.data Ty.bool (!(List.any columns (fun e => !M.columnOk e)))) []) (K (.data Ty.bool false) [])) := by kernel_rfl
theorem con131_ok : ConOk P 131 c131 := by
  refine con_okR (fn := f131) (code := bodyOf f131) (tab_ok tab_check cmp_check) consOk131 mixed func131 rfl rfl fun args hp K h0 => ?_
  obtain ⟨a0, rfl, rfl, h1⟩ := args1_elim h0
  obtain ⟨columns, rfl, h2⟩ := withD_elim h1
  obtain ⟨h_columns, hK⟩ := h2
  have h : ok (F.impl_ColumnsOk columns) (fun r => K (.data Ty.bool r) []) := ok_of_eq (F.impl_ColumnsOk_eq columns h_columns) hK
  refine ⟨⟨show (1 : Nat) ≤ 11 by decide, show (1 : Nat) ≤ 1000000 by decide⟩, ann131, (L131 columns), (.dat Ty.bool), (no_loops (by kernel_rfl)), ?_⟩
  · rw [vc131 columns K]
    exact (ok_cond h (fun b_1 h => ⟨h_columns, (have h := ok_ret h; h)⟩) (fun b_1 h => (have h := ok_ret h; h)))

/-! 199: loop.example/tablehouse/impl.letters -/
def c199 : Con := ⟨[.dat Ty.str], fun args hp K => args1 (fun a0 => withD Ty.str a0 fun s => (Sm Ty.str s) ∧ K (.data Ty.bool (M.lower (byteInts s))) []) args hp, .plain⟩
def cons199 : Cons := [(66, c66)]
def inl199 : List (Nat × Inl) := []
@[reducible] def C199 : Ctx := ⟨tab, fun t => memN t cmps, cons199, 17, inl199, 0, false⟩
theorem consOk199 : ConsOk P C199 := by
  refine consOk_cons (enter_ok (fn := f66) func66 (by kernel_rfl) rfl) con66_ok ?_
  exact consOk_nil
def ann199 : Nat → List Dir
  | 0 => [.keep [0]]
  | 1 => [.keep [6, 7, 8]]
  | 2 => [.keep [6, 7, 8, 9]]
  | 3 => [.keep [4, 6, 7, 8]]
  | 4 => [.keep [6, 7, 8, 15]]
  | 5 => [.keep [2]]
  | 6 => [.keep [6, 7, 8]]
  | 7 => [.keep [2]]
  | 100000 => [.keep []]
  | _ => []
@[reducible] def LP199_0 (s : ByteArray) (m : Nat) (st_ : St) (K : X → St → Prop) : Prop := (True) ∧ LoopE (t := (Ty.int .u8)) (fun (i0 : Int) (v0 : Unit) => (⟨[(6, .data (Ty.sl (Ty.int .u8)) (byteInts s)), (7, .data TInt ((byteInts s).length : Int)), (8, .data TInt i0)], []⟩ : St)) (byteInts s) (F.impl_letters_l0 s) (fun v0 : Unit => True) (outD (fun v0 : Unit => True → K (.exit 0) (⟨[], []⟩ : St)) (fun q0 : Unit => K .ret (⟨[(2, .data Ty.bool false)], []⟩ : St))) m st_
def L199 (s : ByteArray) : Loops := fun id m st_ K => match id with
  | 0 => LP199_0 s m st_ K
  | _ => False
theorem vc199 (s : ByteArray) (K : AV → Hp → Prop) : awp C199 (L199 s) ann199 (bodyOf f199) ⟨argEnv 0 [.data Ty.str s], []⟩ (outK tab false f199.results.toList (hasBox []) (resK (.dat Ty.bool) K)) =
  ((∃ m_, (True) ∧ LoopE (t := (Ty.int .u8)) (fun (i0 : Int) (v0 : Unit) => (⟨[(6, .data (Ty.sl (Ty.int .u8)) (byteInts s)), (7, .data TInt ((byteInts s).length : Int)), (8, .data TInt i0)], []⟩ : St)) (byteInts s) (F.impl_letters_l0 s) (fun v0 : Unit => True) (outD (fun v0 : Unit => True → K (.data Ty.bool true) []) (fun q0 : Unit => K (.data Ty.bool false) [])) m_ (⟨[(6, .data (Ty.sl (Ty.int .u8)) (byteInts s)), (7, .data TInt ((byteInts s).length : Int)), (8, .data TInt (0 : Int))], []⟩ : St))) := by kernel_rfl
theorem lvc199_0 (s : ByteArray)  (i0 : Int) (v0 : Unit) (m : Nat) (K : X → St → Prop) : awp C199 (L199 s) ann199 (loopAt (bodyOf f199) 0) (⟨[(6, .data (Ty.sl (Ty.int .u8)) (byteInts s)), (7, .data TInt ((byteInts s).length : Int)), (8, .data TInt i0)], []⟩ : St) (thenW (fun s' => ∃ m', m' < m ∧ (L199 s) 0 m' s' K) (exitN 0 (ann199 (behind 0)) K)) =
  (cond (decide (i0 < ((byteInts s).length : Int))) ((0 ≤ i0) ∧ (i0 < ((byteInts s).length : Int)) ∧ cond (!(M.inR (wrap64 ((nth (t := (Ty.int .u8)) (byteInts s) i0))) (97 : Int) (122 : Int))) (K .ret (⟨[(2, .data Ty.bool false)], []⟩ : St)) ((∃ m_, m_ < m ∧ (L199 s) 0 m_ (⟨[(6, .data (Ty.sl (Ty.int .u8)) (byteInts s)), (7, .data TInt ((byteInts s).length : Int)), (8, .data TInt (wrap64 (i0 + (1 : Int))))], []⟩ : St) K))) (K (.exit 0) (⟨[], []⟩ : St))) := by kernel_rfl
theorem con199_ok : ConOk P 199 c199 := by
  refine con_okR (fn := f199) (code := bodyOf f199) (tab_ok tab_check cmp_check) consOk199 mixed func199 rfl rfl fun args hp K h0 => ?_
  obtain ⟨a0, rfl, rfl, h1⟩ := args1_elim h0
  obtain ⟨s, rfl, h2⟩ := withD_elim h1
  obtain ⟨h_s, hK⟩ := h2
  have h : ok (F.impl_letters s) (fun r => K (.data Ty.bool r) []) := ok_of_eq (F.impl_letters_eq s h_s) hK
  refine ⟨⟨show (1 : Nat) ≤ 17 by decide, show (1 : Nat) ≤ 1000000 by decide⟩, ann199, (L199 s), (.dat Ty.bool), (loopsN1 (i0 := 0) (by kernel_rfl) ?_), ?_⟩
  · clear h
    intro m_ s_ K_ h
    obtain ⟨hc0, i0, v0, rfl, hl0, rfl, hv0, h⟩ := (show LP199_0 s m_ s_ K_ from h)
    rw [lvc199_0 s i0 v0 _ K_]
    exact (loopE_step (t := (Ty.int .u8)) hl0 h (fun ht0 h => ⟨hl0, ⟨ht0, (ok_cond h (fun b_9 h => (have h := ok_ret h; h)) (fun b_9 h => (loopE_next (t := (Ty.int .u8)) (fun m hm => (show LP199_0 s m _ _ from ⟨hc0, hm⟩)) () rfl hl0 ht0 (sm_len (sm_bytes h_s)) trivial (have h := ok_ret h; h))))⟩⟩) (fun h => (h trivial)))
  · rw [vc199 s K]
    exact (loopE_start (t := (Ty.int .u8)) (fun m hm => ⟨trivial, hm⟩) () rfl trivial (ok_then h (fun v0 h hv0 => (have h := ok_ret h; h)) (fun q0 h => (have h := ok_ret h; h))))

/-! 171: (loop.example/tablehouse/impl.Value).ok -/
def c171 : Con := ⟨[.dat TValue], fun args hp K => args1 (fun a0 => withD TValue a0 fun v => (Sm TValue v) ∧ K (.data Ty.bool (M.valueOk v)) []) args hp, .plain⟩
def cons171 : Cons := [(66, c66), (199, c199)]
def inl171 : List (Nat × Inl) := []
@[reducible] def C171 : Ctx := ⟨tab, fun t => memN t cmps, cons171, 46, inl171, 0, false⟩
theorem consOk171 : ConsOk P C171 := by
  refine consOk_cons (enter_ok (fn := f66) func66 (by kernel_rfl) rfl) con66_ok ?_
  refine consOk_cons (enter_ok (fn := f199) func199 (by kernel_rfl) rfl) con199_ok ?_
  exact consOk_nil
def ann171 : Nat → List Dir
  | 0 => [.fixRow 1 TValue, .keep [1]]
  | 1 => [.keep [1, 4]]
  | 2 => [.keep [1, 4, 5]]
  | 3 => [.keep [2]]
  | 4 => [.keep [1, 4, 10]]
  | 5 => [.keep [2]]
  | 6 => [.keep [1, 4, 20]]
  | 7 => [.keep [2]]
  | 8 => [.keep [1, 36]]
  | 9 => [.keep [2]]
  | 10 => [.keep [2]]
  | _ => []
def L171 (v : (TValue).D) : Loops := fun id m st_ K => match id with
  | _ => False
theorem vc171 (v : (TValue).D) (K : AV → Hp → Prop) : awp C171 (L171 v) ann171 (bodyOf f171) ⟨argEnv 0 [.data TValue v], []⟩ (outK tab false f171.results.toList (hasBox []) (resK (.dat Ty.bool) K)) =
  (cond (decide (v.1 = (0 : Int))) (K (.data Ty.bool (Ty.beq TValue v ((0 : Int), ((0 : Int), ((⟨#[]⟩ : ByteArray), ()))))) []) (cond (decide (v.1 = (1 : Int))) (cond ((decide (v.2.2.1 = (⟨#[]⟩ : ByteArray))) == true) (K (.data Ty.bool (M.inR v.2.1 (-9999 : Int) (9999 : Int))) []) (K (.data Ty.bool false) [])) (cond (decide (v.1 = (2 : Int))) (cond ((decide (v.2.1 = (0 : Int))) == true) (cond ((decide ((v.2.2.1.size : Int) ≤ (6 : Int))) == true) ((Sm Ty.str v.2.2.1) ∧ K (.data Ty.bool (M.lower (byteInts v.2.2.1))) []) (K (.data Ty.bool false) [])) (K (.data Ty.bool false) [])) (cond (decide (v.1 = (3 : Int))) (cond ((decide (v.2.2.1 = (⟨#[]⟩ : ByteArray))) == true) (K (.data Ty.bool (M.inR v.2.1 (0 : Int) (1 : Int))) []) (K (.data Ty.bool false) [])) (K (.data Ty.bool false) []))))) := by kernel_rfl
theorem con171_ok : ConOk P 171 c171 := by
  refine con_okR (fn := f171) (code := bodyOf f171) (tab_ok tab_check cmp_check) consOk171 mixed func171 rfl rfl fun args hp K h0 => ?_
  obtain ⟨a0, rfl, rfl, h1⟩ := args1_elim h0
  obtain ⟨v, rfl, h2⟩ := withD_elim h1
  obtain ⟨h_v, hK⟩ := h2
  have h : ok (F.impl_Value_ok v) (fun r => K (.data Ty.bool r) []) := ok_of_eq (F.impl_Value_ok_eq v h_v) hK
  refine ⟨⟨show (1 : Nat) ≤ 46 by decide, show (1 : Nat) ≤ 1000000 by decide⟩, ann171, (L171 v), (.dat Ty.bool), (no_loops (by kernel_rfl)), ?_⟩
  · rw [vc171 v K]
    exact (ok_cond h (fun b_1 h => (have h := ok_ret h; h)) (fun b_1 h => (ok_cond h (fun b_2 h => (ok_cond h (fun b_3 h => (have h := ok_ret h; h)) (fun b_3 h => (have h := ok_ret h; h)))) (fun b_2 h => (ok_cond h (fun b_4 h => (ok_cond h (fun b_5 h => (ok_cond h (fun b_6 h => ⟨h_v.2.2.1, (have h := ok_ret h; h)⟩) (fun b_6 h => (have h := ok_ret h; h)))) (fun b_5 h => (have h := ok_ret h; h)))) (fun b_4 h => (ok_cond h (fun b_7 h => (ok_cond h (fun b_8 h => (have h := ok_ret h; h)) (fun b_8 h => (have h := ok_ret h; h)))) (fun b_7 h => (have h := ok_ret h; h)))))))))

/-! 210: loop.example/tablehouse/impl.RowOk$1 -/
def c210 : Con := ⟨[.dat TValue], fun args hp K => args1 (fun a0 => withD TValue a0 fun v => (Sm TValue v) ∧ K (.data Ty.bool (!M.valueOk v)) []) args hp, .plain⟩
def cons210 : Cons := [(171, c171)]
def inl210 : List (Nat × Inl) := []
@[reducible] def C210 : Ctx := ⟨tab, fun t => memN t cmps, cons210, 6, inl210, 0, false⟩
theorem consOk210 : ConsOk P C210 := by
  refine consOk_cons (enter_ok (fn := f171) func171 (by kernel_rfl) rfl) con171_ok ?_
  exact consOk_nil
def ann210 : Nat → List Dir
  | 0 => [.fixRow 1 TValue, .keep [1]]
  | 1 => [.keep [2]]
  | _ => []
def L210 (v : (TValue).D) : Loops := fun id m st_ K => match id with
  | _ => False
theorem vc210 (v : (TValue).D) (K : AV → Hp → Prop) : awp C210 (L210 v) ann210 (bodyOf f210) ⟨argEnv 0 [.data TValue v], []⟩ (outK tab false f210.results.toList (hasBox []) (resK (.dat Ty.bool) K)) =
  ((Sm TValue v) ∧ K (.data Ty.bool (!(M.valueOk v))) []) := by kernel_rfl
theorem con210_ok : ConOk P 210 c210 := by
  refine con_okR (fn := f210) (code := bodyOf f210) (tab_ok tab_check cmp_check) consOk210 mixed func210 rfl rfl fun args hp K h0 => ?_
  obtain ⟨a0, rfl, rfl, h1⟩ := args1_elim h0
  obtain ⟨v, rfl, h2⟩ := withD_elim h1
  obtain ⟨h_v, hK⟩ := h2
  have h : ok (F.impl_RowOk_1 v) (fun r => K (.data Ty.bool r) []) := ok_of_eq (F.impl_RowOk_1_eq v h_v) hK
  refine ⟨⟨show (1 : Nat) ≤ 6 by decide, show (1 : Nat) ≤ 1000000 by decide⟩, ann210, (L210 v), (.dat Ty.bool), (no_loops (by kernel_rfl)), ?_⟩
  · rw [vc210 v K]
    exact ⟨h_v, (have h := ok_ret h; h)⟩

/-! 216: slices.IndexFunc[[]loop.example/tablehouse/impl.Value,loop.example/tablehouse/impl.Value] -/
def c216 : Con := ⟨[.lent TValue, .any], fun args hp K => args2 (fun a0 a1 => withB TValue a0 fun xs => withF 210 a1 (caps0 ((Sm (Ty.sl TValue) xs) ∧ K (.data TInt (M.idx (t := TValue) (fun e => !M.valueOk e) xs)) []))) args hp, .plain⟩
def cons216 : Cons := [(210, c210)]
def inl216 : List (Nat × Inl) := []
@[reducible] def C216 : Ctx := ⟨tab, fun t => memN t cmps, cons216, 19, inl216, 0, false⟩
theorem consOk216 : ConsOk P C216 := by
  refine consOk_cons (enter_ok (fn := f210) func210 (by kernel_rfl) rfl) con210_ok ?_
  exact consOk_nil
def ann216 : Nat → List Dir
  | 0 => [.keep [0, 1]]
  | 1 => [.keep [0, 1, 7, 8]]
  | 2 => [.keep [0, 1, 7, 8, 9]]
  | 3 => [.keep [0, 1, 5, 7, 8]]
  | 4 => [.keep [0, 1, 5, 7, 8, 16]]
  | 5 => [.keep [4]]
  | 6 => [.keep [0, 1, 7, 8]]
  | 7 => [.keep [4]]
  | 100000 => [.keep []]
  | _ => []
@[reducible] def LP216_0 (xs : (List (TValue).D)) (m : Nat) (st_ : St) (K : X → St → Prop) : Prop := (True) ∧ LoopI (fun (i0 : Int) (v0 : Unit) => (⟨[(0, .brw TValue xs), (1, .fn 210 []), (7, .data TInt (xs.length : Int)), (8, .data TInt i0)], []⟩ : St)) (0 : Int) (xs.length : Int) (F.IndexFunc_impl_RowOk_1_l0 xs) (fun v0 : Unit => True) (outD (fun v0 : Unit => True → K (.exit 0) (⟨[], []⟩ : St)) (fun q0 : Int => K .ret (⟨[(4, .data TInt q0)], []⟩ : St))) m st_
def L216 (xs : (List (TValue).D)) : Loops := fun id m st_ K => match id with
  | 0 => LP216_0 xs m st_ K
  | _ => False
theorem vc216 (xs : (List (TValue).D)) (K : AV → Hp → Prop) : awp C216 (L216 xs) ann216 (bodyOf f216) ⟨argEnv 0 [.brw TValue xs, .fn 210 []], []⟩ (outK tab false f216.results.toList (hasBox []) (resK (.dat TInt) K)) =
  ((∃ m_, (True) ∧ LoopI (fun (i0 : Int) (v0 : Unit) => (⟨[(0, .brw TValue xs), (1, .fn 210 []), (7, .data TInt (xs.length : Int)), (8, .data TInt i0)], []⟩ : St)) (0 : Int) (xs.length : Int) (F.IndexFunc_impl_RowOk_1_l0 xs) (fun v0 : Unit => True) (outD (fun v0 : Unit => True → K (.data TInt (-1 : Int)) []) (fun q0 : Int => K (.data TInt q0) [])) m_ (⟨[(0, .brw TValue xs), (1, .fn 210 []), (7, .data TInt (xs.length : Int)), (8, .data TInt (0 : Int))], []⟩ : St))) := by kernel_rfl
theorem lvc216_0 (xs : (List (TValue).D))  (i0 : Int) (v0 : Unit) (m : Nat) (K : X → St → Prop) : awp C216 (L216 xs) ann216 (loopAt (bodyOf f216) 0) (⟨[(0, .brw TValue xs), (1, .fn 210 []), (7, .data TInt (xs.length : Int)), (8, .data TInt i0)], []⟩ : St) (thenW (fun s' => ∃ m', m' < m ∧ (L216 xs) 0 m' s' K) (exitN 0 (ann216 (behind 0)) K)) =
  (cond (decide (i0 < (xs.length : Int))) ((0 ≤ i0) ∧ (i0 < (xs.length : Int)) ∧ (Sm TValue (nth (t := TValue) xs i0)) ∧ cond (!M.valueOk (nth (t := TValue) xs i0)) (K .ret (⟨[(4, .data TInt i0)], []⟩ : St)) ((∃ m_, m_ < m ∧ (L216 xs) 0 m_ (⟨[(0, .brw TValue xs), (1, .fn 210 []), (7, .data TInt (xs.length : Int)), (8, .data TInt (wrap64 (i0 + (1 : Int))))], []⟩ : St) K))) (K (.exit 0) (⟨[], []⟩ : St))) := by kernel_rfl
theorem con216_ok : ConOk P 216 c216 := by
  refine con_okR (fn := f216) (code := bodyOf f216) (tab_ok tab_check cmp_check) consOk216 mixed func216 rfl rfl fun args hp K h0 => ?_
  obtain ⟨a0, a1, rfl, rfl, h1⟩ := args2_elim h0
  obtain ⟨xs, rfl, h2⟩ := withB_elim h1
  obtain ⟨cs1, rfl, h3⟩ := withF_elim h2
  obtain ⟨rfl, h4⟩ := caps0_elim h3
  obtain ⟨h_xs, hK⟩ := h4
  have h : ok (F.IndexFunc_impl_RowOk_1 xs) (fun r => K (.data TInt r) []) := ok_of_eq (F.IndexFunc_impl_RowOk_1_eq xs h_xs) hK
  refine ⟨⟨show (2 : Nat) ≤ 19 by decide, show (2 : Nat) ≤ 1000000 by decide⟩, ann216, (L216 xs), (.dat TInt), (loopsN1 (i0 := 0) (by kernel_rfl) ?_), ?_⟩
  · clear h
    intro m_ s_ K_ h
    obtain ⟨hc0, i0, v0, rfl, hl0, rfl, hv0, h⟩ := (show LP216_0 xs m_ s_ K_ from h)
    rw [lvc216_0 xs i0 v0 _ K_]
    exact (loopI_step h (fun ht0 h => ⟨hl0, ⟨ht0, ⟨(sm_nth h_xs i0), (ok_cond h (fun b_9 h => (have h := ok_ret h; h)) (fun b_9 h => (loopI_next (fun m hm => (show LP216_0 xs m _ _ from ⟨hc0, hm⟩)) () rfl hl0 low0 ht0 (sm_len h_xs) trivial (have h := ok_ret h; h))))⟩⟩⟩) (fun h => (h trivial)))
  · rw [vc216 xs K]
    exact (loopI_start (fun m hm => ⟨trivial, hm⟩) (0 : Int) () rfl (Int.natCast_nonneg 0) trivial (ok_then h (fun v0 h hv0 => (have h := ok_ret h; h)) (fun q0 h => (have h := ok_ret h; h))))

/-! 209: slices.ContainsFunc[[]loop.example/tablehouse/impl.Value,loop.example/tablehouse/impl.Value] -/
def c209 : Con := ⟨[.lent TValue, .any], fun args hp K => args2 (fun a0 a1 => withB TValue a0 fun xs => withF 210 a1 (caps0 ((Sm (Ty.sl TValue) xs) ∧ K (.data Ty.bool (List.any xs (fun e => !M.valueOk e))) []))) args hp, .plain⟩
def cons209 : Cons := [(210, c210), (216, c216)]
def inl209 : List (Nat × Inl) := []
@[reducible] def C209 : Ctx := ⟨tab, fun t => memN t cmps, cons209, 9, inl209, 0, false⟩
theorem consOk209 : ConsOk P C209 := by
  refine consOk_cons (enter_ok (fn := f210) func210 (by kernel_rfl) rfl) con210_ok ?_
  refine consOk_cons (enter_ok (fn := f216) func216 (by kernel_rfl) rfl) con216_ok ?_
  exact consOk_nil
def ann209 : Nat → List Dir
  | 0 => [.keep [0, 1]]
  | 1 => [.keep [4]]
  | _ => []
def L209 (xs : (List (TValue).D)) : Loops := fun id m st_ K => match id with
  | _ => False
theorem vc209 (xs : (List (TValue).D)) (K : AV → Hp → Prop) : awp C209 (L209 xs) ann209 (bodyOf f209) ⟨argEnv 0 [.brw TValue xs, .fn 210 []], []⟩ (outK tab false f209.results.toList (hasBox []) (resK (.dat Ty.bool) K)) =
  ((Sm (Ty.sl TValue) xs) ∧ K (.data Ty.bool (decide ((0 : Int) ≤ (M.idx (t := TValue) (fun e => !M.valueOk e) xs)))) []) := by kernel_rfl
theorem con209_ok : ConOk P 209 c209 := by
  refine con_okR (fn := f209) (code := bodyOf f209) (tab_ok tab_check cmp_check) consOk209 mixed func209 rfl rfl fun args hp K h0 => ?_
  obtain ⟨a0, a1, rfl, rfl, h1⟩ := args2_elim h0
  obtain ⟨xs, rfl, h2⟩ := withB_elim h1
  obtain ⟨cs1, rfl, h3⟩ := withF_elim h2
  obtain ⟨rfl, h4⟩ := caps0_elim h3
  obtain ⟨h_xs, hK⟩ := h4
  have h : ok (F.ContainsFunc_impl_RowOk_1 xs) (fun r => K (.data Ty.bool r) []) := ok_of_eq (F.ContainsFunc_impl_RowOk_1_eq xs h_xs) hK
  refine ⟨⟨show (2 : Nat) ≤ 9 by decide, show (2 : Nat) ≤ 1000000 by decide⟩, ann209, (L209 xs), (.dat Ty.bool), (no_loops (by kernel_rfl)), ?_⟩
  · rw [vc209 xs K]
    exact ⟨h_xs, (have h := ok_ret h; h)⟩

/-! 198: loop.example/tablehouse/impl.RowOk -/
def c198 : Con := ⟨[.dat (Ty.sl TValue)], fun args hp K => args1 (fun a0 => withD (Ty.sl TValue) a0 fun row => (Sm (Ty.sl TValue) row) ∧ K (.data Ty.bool (M.rowOk row)) []) args hp, .plain⟩
def cons198 : Cons := [(209, c209)]
def inl198 : List (Nat × Inl) := []
@[reducible] def C198 : Ctx := ⟨tab, fun t => memN t cmps, cons198, 11, inl198, 0, false⟩
theorem consOk198 : ConsOk P C198 := by
  refine consOk_cons (enter_ok (fn := f209) func209 (by kernel_rfl) rfl) con209_ok ?_
  exact consOk_nil
def ann198 : Nat → List Dir
  | 0 => [.keep [0]]
  | 1 => [.keep [2]]
  | _ => []
def L198 (row : (List (TValue).D)) : Loops := fun id m st_ K => match id with
  | _ => False
theorem vc198 (row : (List (TValue).D)) (K : AV → Hp → Prop) : awp C198 (L198 row) ann198 (bodyOf f198) ⟨argEnv 0 [.data (Ty.sl TValue) row], []⟩ (outK tab false f198.results.toList (hasBox []) (resK (.dat Ty.bool) K)) =
  (cond ((decide ((row.length : Int) ≤ (4 : Int))) == true) ((Sm (Ty.sl TValue) row) ∧ K (.data Ty.bool (!(List.any row (fun e => !M.valueOk e)))) []) (K (.data Ty.bool false) [])) := by kernel_rfl
theorem con198_ok : ConOk P 198 c198 := by
  refine con_okR (fn := f198) (code := bodyOf f198) (tab_ok tab_check cmp_check) consOk198 mixed func198 rfl rfl fun args hp K h0 => ?_
  obtain ⟨a0, rfl, rfl, h1⟩ := args1_elim h0
  obtain ⟨row, rfl, h2⟩ := withD_elim h1
  obtain ⟨h_row, hK⟩ := h2
  have h : ok (F.impl_RowOk row) (fun r => K (.data Ty.bool r) []) := ok_of_eq (F.impl_RowOk_eq row h_row) hK
  refine ⟨⟨show (1 : Nat) ≤ 11 by decide, show (1 : Nat) ≤ 1000000 by decide⟩, ann198, (L198 row), (.dat Ty.bool), (no_loops (by kernel_rfl)), ?_⟩
  · rw [vc198 row K]
    exact (ok_cond h (fun b_1 h => ⟨h_row, (have h := ok_ret h; h)⟩) (fun b_1 h => (have h := ok_ret h; h)))

/-! 170: loop.example/tablehouse/impl.RowFits -/
def c170 : Con := ⟨[.dat (Ty.sl TColumn), .dat (Ty.sl TValue)], fun args hp K => args2 (fun a0 a1 => withD (Ty.sl TColumn) a0 fun columns => withD (Ty.sl TValue) a1 fun row => (Sm (Ty.sl TColumn) columns) ∧ (Sm (Ty.sl TValue) row) ∧ K (.data Ty.bool (M.rowFits columns row)) []) args hp, .plain⟩
def cons170 : Cons := [(131, c131), (198, c198)]
def inl170 : List (Nat × Inl) := []
@[reducible] def C170 : Ctx := ⟨tab, fun t => memN t cmps, cons170, 51, inl170, 0, false⟩
theorem consOk170 : ConsOk P C170 := by
  refine consOk_cons (enter_ok (fn := f131) func131 (by kernel_rfl) rfl) con131_ok ?_
  refine consOk_cons (enter_ok (fn := f198) func198 (by kernel_rfl) rfl) con198_ok ?_
  exact consOk_nil
def ann170 : Nat → List Dir
  | 0 => [.keep [0, 1]]
  | 1 => [.keep [0, 1, 21]]
  | 2 => [.keep [4]]
  | 3 => [.keep [0, 22, 23, 24]]
  | 4 => [.keep [0, 22, 23, 24, 25]]
  | 5 => [.fixRow 6 TValue, .keep [0, 5, 6, 22, 23, 24]]
  | 6 => [.keep [0, 22, 23, 24, 49]]
  | 7 => [.keep [4]]
  | 8 => [.keep [0, 22, 23, 24]]
  | 9 => [.keep [4]]
  | 100000 => [.keep []]
  | _ => []
@[reducible] def LP170_0 (columns : (List (TColumn).D)) (row : (List (TValue).D)) (m : Nat) (st_ : St) (K : X → St → Prop) : Prop := (True) ∧ LoopI (fun (i0 : Int) (v0 : Unit) => (⟨[(0, .data (Ty.sl TColumn) columns), (22, .data (Ty.sl TValue) row), (23, .data TInt (row.length : Int)), (24, .data TInt i0)], []⟩ : St)) (0 : Int) (row.length : Int) (F.impl_RowFits_l0 columns row) (fun v0 : Unit => True) (outD (fun v0 : Unit => True → K (.exit 0) (⟨[], []⟩ : St)) (fun q0 : Unit => K .ret (⟨[(4, .data Ty.bool false)], []⟩ : St))) m st_
def L170 (columns : (List (TColumn).D)) (row : (List (TValue).D)) : Loops := fun id m st_ K => match id with
  | 0 => LP170_0 columns row m st_ K
  | _ => False
theorem vc170 (columns : (List (TColumn).D)) (row : (List (TValue).D)) (K : AV → Hp → Prop) : awp C170 (L170 columns row) ann170 (bodyOf f170) ⟨argEnv 0 [.data (Ty.sl TColumn) columns, .data (Ty.sl TValue) row], []⟩ (outK tab false f170.results.toList (hasBox []) (resK (.dat Ty.bool) K)) =
  ((Sm (Ty.sl TColumn) columns) ∧ cond ((!(M.columnsOk columns)) == false) ((Sm (Ty.sl TValue) row) ∧ cond ((!(M.rowOk row)) == false) (cond (!decide ((row.length : Int) = (columns.length : Int))) (K (.data Ty.bool false) []) ((∃ m_, (True) ∧ LoopI (fun (i0 : Int) (v0 : Unit) => (⟨[(0, .data (Ty.sl TColumn) columns), (22, .data (Ty.sl TValue) row), (23, .data TInt (row.length : Int)), (24, .data TInt i0)], []⟩ : St)) (0 : Int) (row.length : Int) (F.impl_RowFits_l0 columns row) (fun v0 : Unit => True) (outD (fun v0 : Unit => True → K (.data Ty.bool true) []) (fun q0 : Unit => K (.data Ty.bool false) [])) m_ (⟨[(0, .data (Ty.sl TColumn) columns), (22, .data (Ty.sl TValue) row), (23, .data TInt (row.length : Int)), (24, .data TInt (0 : Int))], []⟩ : St)))) (K (.data Ty.bool false) [])) (K (.data Ty.bool false) [])) := by kernel_rfl
@[reducible] def S170l0_0 (columns : (List (TColumn).D)) (row : (List (TValue).D))  (i0 : Int) (v0 : Unit) (m : Nat) (K : X → St → Prop) : Prop := (∃ m_, m_ < m ∧ (L170 columns row) 0 m_ (⟨[(0, .data (Ty.sl TColumn) columns), (22, .data (Ty.sl TValue) row), (23, .data TInt (row.length : Int)), (24, .data TInt (wrap64 (i0 + (1 : Int))))], []⟩ : St) K)
theorem lvc170_0 (columns : (List (TColumn).D)) (row : (List (TValue).D))  (i0 : Int) (v0 : Unit) (m : Nat) (K : X → St → Prop) : awp C170 (L170 columns row) ann170 (loopAt (bodyOf f170) 0) (⟨[(0, .data (Ty.sl TColumn) columns), (22, .data (Ty.sl TValue) row), (23, .data TInt (row.length : Int)), (24, .data TInt i0)], []⟩ : St) (thenW (fun s' => ∃ m', m' < m ∧ (L170 columns row) 0 m' s' K) (exitN 0 (ann170 (behind 0)) K)) =
  (cond (decide (i0 < (row.length : Int))) ((0 ≤ i0) ∧ (i0 < (row.length : Int)) ∧ (0 ≤ i0) ∧ (i0 < (columns.length : Int)) ∧ cond ((!decide ((nth (t := TValue) row i0).1 = (nth (t := TColumn) columns i0).1)) == true) (cond ((!decide ((nth (t := TValue) row i0).1 = (0 : Int))) == false) ((0 ≤ i0) ∧ (i0 < (columns.length : Int)) ∧ cond (!(((nth (t := TColumn) columns i0).2).1)) (K .ret (⟨[(4, .data Ty.bool false)], []⟩ : St)) ((S170l0_0  columns row i0 v0 m K))) (K .ret (⟨[(4, .data Ty.bool false)], []⟩ : St))) ((S170l0_0  columns row i0 v0 m K))) (K (.exit 0) (⟨[], []⟩ : St))) := by kernel_rfl
theorem con170_ok : ConOk P 170 c170 := by
  refine con_okR (fn := f170) (code := bodyOf f170) (tab_ok tab_check cmp_check) consOk170 mixed func170 rfl rfl fun args hp K h0 => ?_
  obtain ⟨a0, a1, rfl, rfl, h1⟩ := args2_elim h0
  obtain ⟨columns, rfl, h2⟩ := withD_elim h1
  obtain ⟨row, rfl, h3⟩ := withD_elim h2
  obtain ⟨h_columns, h_row, hK⟩ := h3
  have h : ok (F.impl_RowFits columns row) (fun r => K (.data Ty.bool r) []) := ok_of_eq (F.impl_RowFits_eq columns row h_columns h_row) hK
  refine ⟨⟨show (2 : Nat) ≤ 51 by decide, show (2 : Nat) ≤ 1000000 by decide⟩, ann170, (L170 columns row), (.dat Ty.bool), (loopsN1 (i0 := 0) (by kernel_rfl) ?_), ?_⟩
  · clear h
    intro m_ s_ K_ h
    obtain ⟨hc0, i0, v0, rfl, hl0, rfl, hv0, h⟩ := (show LP170_0 columns row m_ s_ K_ from h)
    rw [lvc170_0 columns row i0 v0 _ K_]
    exact (loopI_step h (fun ht0 h => ⟨hl0, ⟨ht0, ⟨hl0, ⟨(ok_guard h).1, have g_18 := (ok_guard h).1; have h := (ok_guard h).2; (ok_cond h (fun b_19 h => (ok_cond h (fun b_20 h => ⟨hl0, ⟨g_18, (ok_cond h (fun b_21 h => (have h := ok_ret h; h)) (fun b_21 h => (loopI_next (fun m hm => (show LP170_0 columns row m _ _ from ⟨hc0, hm⟩)) () rfl hl0 low0 ht0 (sm_len h_row) trivial (have h := ok_ret h; h))))⟩⟩) (fun b_20 h => (have h := ok_ret h; h)))) (fun b_19 h => (loopI_next (fun m hm => (show LP170_0 columns row m _ _ from ⟨hc0, hm⟩)) () rfl hl0 low0 ht0 (sm_len h_row) trivial (have h := ok_ret h; h))))⟩⟩⟩⟩) (fun h => (h trivial)))
  · rw [vc170 columns row K]
    exact ⟨h_columns, (ok_cond h (fun b_1 h => ⟨h_row, (ok_cond h (fun b_2 h => (ok_cond h (fun b_3 h => (have h := ok_ret h; h)) (fun b_3 h => (loopI_start (fun m hm => ⟨trivial, hm⟩) (0 : Int) () rfl (Int.natCast_nonneg 0) trivial (ok_then h (fun v0 h hv0 => (have h := ok_ret h; h)) (fun q0 h => (have h := ok_ret h; h))))))) (fun b_2 h => (have h := ok_ret h; h)))⟩) (fun b_1 h => (have h := ok_ret h; h)))⟩

/-! 169: loop.example/tablehouse/impl.RowsOk$1 -/
def c169 : Con := ⟨[.dat (Ty.sl TValue), .any], fun args hp K => args2 (fun a0 a1 => withD (Ty.sl TValue) a0 fun r => withR (Ty.sl TColumn) a1 fun columns => (Sm (Ty.sl TValue) r) ∧ (Sm (Ty.sl TColumn) columns) ∧ K (.data Ty.bool (!M.rowFits columns r)) []) args hp, .plain⟩
def cons169 : Cons := [(170, c170)]
def inl169 : List (Nat × Inl) := []
@[reducible] def C169 : Ctx := ⟨tab, fun t => memN t cmps, cons169, 8, inl169, 0, false⟩
theorem consOk169 : ConsOk P C169 := by
  refine consOk_cons (enter_ok (fn := f170) func170 (by kernel_rfl) rfl) con170_ok ?_
  exact consOk_nil
def ann169 : Nat → List Dir
  | 0 => [.keep [0, 1]]
  | 1 => [.keep [3]]
  | _ => []
def L169 (r : (List (TValue).D)) (columns : (List (TColumn).D)) : Loops := fun id m st_ K => match id with
  | _ => False
theorem vc169 (r : (List (TValue).D)) (columns : (List (TColumn).D)) (K : AV → Hp → Prop) : awp C169 (L169 r columns) ann169 (bodyOf f169) ⟨argEnv 0 [.data (Ty.sl TValue) r, .ref (.data (Ty.sl TColumn) columns)], []⟩ (outK tab false f169.results.toList (hasBox []) (resK (.dat Ty.bool) K)) =
  ((Sm (Ty.sl TColumn) columns) ∧ (Sm (Ty.sl TValue) r) ∧ K (.data Ty.bool (!(M.rowFits columns r))) []) := by kernel_rfl
theorem con169_ok : ConOk P 169 c169 := by
  refine con_okR (fn := f169) (code := bodyOf f169) (tab_ok tab_check cmp_check) consOk169 mixed func169 rfl rfl fun args hp K h0 => ?_
  obtain ⟨a0, a1, rfl, rfl, h1⟩ := args2_elim h0
  obtain ⟨r, rfl, h2⟩ := withD_elim h1
  obtain ⟨columns, rfl, h3⟩ := withR_elim h2
  obtain ⟨h_r, h_columns, hK⟩ := h3
  have h : ok (F.impl_RowsOk_1 r columns) (fun r => K (.data Ty.bool r) []) := ok_of_eq (F.impl_RowsOk_1_eq r columns h_r h_columns) hK
  refine ⟨⟨show (2 : Nat) ≤ 8 by decide, show (2 : Nat) ≤ 1000000 by decide⟩, ann169, (L169 r columns), (.dat Ty.bool), (no_loops (by kernel_rfl)), ?_⟩
  · rw [vc169 r columns K]
    exact ⟨h_columns, ⟨h_r, (have h := ok_ret h; h)⟩⟩

/-! 197: slices.IndexFunc[[][]loop.example/tablehouse/impl.Value,[]loop.example/tablehouse/impl.Value] -/
def c197 : Con := ⟨[.lent (Ty.sl TValue), .any], fun args hp K => args2 (fun a0 a1 => withB (Ty.sl TValue) a0 fun xs => withF 169 a1 (caps1 (fun b1_0 => withR (Ty.sl TColumn) b1_0 fun k0 => (Sm (Ty.sl (Ty.sl TValue)) xs) ∧ (Sm (Ty.sl TColumn) k0) ∧ K (.data TInt (M.idx (t := (Ty.sl TValue)) (fun e => !M.rowFits k0 e) xs)) []))) args hp, .plain⟩
def cons197 : Cons := [(169, c169)]
def inl197 : List (Nat × Inl) := []
@[reducible] def C197 : Ctx := ⟨tab, fun t => memN t cmps, cons197, 19, inl197, 0, false⟩
theorem consOk197 : ConsOk P C197 := by
  refine consOk_cons (enter_ok (fn := f169) func169 (by kernel_rfl) rfl) con169_ok ?_
  exact consOk_nil
def ann197 : Nat → List Dir
  | 0 => [.keep [0, 1]]
  | 1 => [.keep [0, 1, 7, 8]]
  | 2 => [.keep [0, 1, 7, 8, 9]]
  | 3 => [.keep [0, 1, 5, 7, 8]]
  | 4 => [.keep [0, 1, 5, 7, 8, 16]]
  | 5 => [.keep [4]]
  | 6 => [.keep [0, 1, 7, 8]]
  | 7 => [.keep [4]]
  | 100000 => [.keep []]
  | _ => []
@[reducible] def LP197_0 (xs : (List (List (TValue).D))) (k0 : (List (TColumn).D)) (m : Nat) (st_ : St) (K : X → St → Prop) : Prop := (True) ∧ LoopI (fun (i0 : Int) (v0 : Unit) => (⟨[(0, .brw (Ty.sl TValue) xs), (1, .fn 169 [.ref (.data (Ty.sl TColumn) k0)]), (7, .data TInt (xs.length : Int)), (8, .data TInt i0)], []⟩ : St)) (0 : Int) (xs.length : Int) (F.IndexFunc_impl_RowsOk_1_l0 xs k0) (fun v0 : Unit => True) (outD (fun v0 : Unit => True → K (.exit 0) (⟨[], []⟩ : St)) (fun q0 : Int => K .ret (⟨[(4, .data TInt q0)], []⟩ : St))) m st_
def L197 (xs : (List (List (TValue).D))) (k0 : (List (TColumn).D)) : Loops := fun id m st_ K => match id with
  | 0 => LP197_0 xs k0 m st_ K
  | _ => False
theorem vc197 (xs : (List (List (TValue).D))) (k0 : (List (TColumn).D)) (K : AV → Hp → Prop) : awp C197 (L197 xs k0) ann197 (bodyOf f197) ⟨argEnv 0 [.brw (Ty.sl TValue) xs, .fn 169 [.ref (.data (Ty.sl TColumn) k0)]], []⟩ (outK tab false f197.results.toList (hasBox []) (resK (.dat TInt) K)) =
  ((∃ m_, (True) ∧ LoopI (fun (i0 : Int) (v0 : Unit) => (⟨[(0, .brw (Ty.sl TValue) xs), (1, .fn 169 [.ref (.data (Ty.sl TColumn) k0)]), (7, .data TInt (xs.length : Int)), (8, .data TInt i0)], []⟩ : St)) (0 : Int) (xs.length : Int) (F.IndexFunc_impl_RowsOk_1_l0 xs k0) (fun v0 : Unit => True) (outD (fun v0 : Unit => True → K (.data TInt (-1 : Int)) []) (fun q0 : Int => K (.data TInt q0) [])) m_ (⟨[(0, .brw (Ty.sl TValue) xs), (1, .fn 169 [.ref (.data (Ty.sl TColumn) k0)]), (7, .data TInt (xs.length : Int)), (8, .data TInt (0 : Int))], []⟩ : St))) := by kernel_rfl
theorem lvc197_0 (xs : (List (List (TValue).D))) (k0 : (List (TColumn).D))  (i0 : Int) (v0 : Unit) (m : Nat) (K : X → St → Prop) : awp C197 (L197 xs k0) ann197 (loopAt (bodyOf f197) 0) (⟨[(0, .brw (Ty.sl TValue) xs), (1, .fn 169 [.ref (.data (Ty.sl TColumn) k0)]), (7, .data TInt (xs.length : Int)), (8, .data TInt i0)], []⟩ : St) (thenW (fun s' => ∃ m', m' < m ∧ (L197 xs k0) 0 m' s' K) (exitN 0 (ann197 (behind 0)) K)) =
  (cond (decide (i0 < (xs.length : Int))) ((0 ≤ i0) ∧ (i0 < (xs.length : Int)) ∧ (Sm (Ty.sl TValue) (nth (t := (Ty.sl TValue)) xs i0)) ∧ (Sm (Ty.sl TColumn) k0) ∧ cond (!M.rowFits k0 (nth (t := (Ty.sl TValue)) xs i0)) (K .ret (⟨[(4, .data TInt i0)], []⟩ : St)) ((∃ m_, m_ < m ∧ (L197 xs k0) 0 m_ (⟨[(0, .brw (Ty.sl TValue) xs), (1, .fn 169 [.ref (.data (Ty.sl TColumn) k0)]), (7, .data TInt (xs.length : Int)), (8, .data TInt (wrap64 (i0 + (1 : Int))))], []⟩ : St) K))) (K (.exit 0) (⟨[], []⟩ : St))) := by kernel_rfl
theorem con197_ok : ConOk P 197 c197 := by
  refine con_okR (fn := f197) (code := bodyOf f197) (tab_ok tab_check cmp_check) consOk197 mixed func197 rfl rfl fun args hp K h0 => ?_
  obtain ⟨a0, a1, rfl, rfl, h1⟩ := args2_elim h0
  obtain ⟨xs, rfl, h2⟩ := withB_elim h1
  obtain ⟨cs1, rfl, h3⟩ := withF_elim h2
  obtain ⟨b1_0, rfl, h4⟩ := caps1_elim h3
  obtain ⟨k0, rfl, h5⟩ := withR_elim h4
  obtain ⟨h_xs, h_k0, hK⟩ := h5
  have h : ok (F.IndexFunc_impl_RowsOk_1 xs k0) (fun r => K (.data TInt r) []) := ok_of_eq (F.IndexFunc_impl_RowsOk_1_eq xs k0 h_xs h_k0) hK
  refine ⟨⟨show (2 : Nat) ≤ 19 by decide, show (2 : Nat) ≤ 1000000 by decide⟩, ann197, (L197 xs k0), (.dat TInt), (loopsN1 (i0 := 0) (by kernel_rfl) ?_), ?_⟩
  · clear h
    intro m_ s_ K_ h
    obtain ⟨hc0, i0, v0, rfl, hl0, rfl, hv0, h⟩ := (show LP197_0 xs k0 m_ s_ K_ from h)
    rw [lvc197_0 xs k0 i0 v0 _ K_]
    exact (loopI_step h (fun ht0 h => ⟨hl0, ⟨ht0, ⟨(sm_nth h_xs i0), ⟨h_k0, (ok_cond h (fun b_9 h => (have h := ok_ret h; h)) (fun b_9 h => (loopI_next (fun m hm => (show LP197_0 xs k0 m _ _ from ⟨hc0, hm⟩)) () rfl hl0 low0 ht0 (sm_len h_xs) trivial (have h := ok_ret h; h))))⟩⟩⟩⟩) (fun h => (h trivial)))
  · rw [vc197 xs k0 K]
    exact (loopI_start (fun m hm => ⟨trivial, hm⟩) (0 : Int) () rfl (Int.natCast_nonneg 0) trivial (ok_then h (fun v0 h hv0 => (have h := ok_ret h; h)) (fun q0 h => (have h := ok_ret h; h))))

/-! 168: slices.ContainsFunc[[][]loop.example/tablehouse/impl.Value,[]loop.example/tablehouse/impl.Value] -/
def c168 : Con := ⟨[.lent (Ty.sl TValue), .any], fun args hp K => args2 (fun a0 a1 => withB (Ty.sl TValue) a0 fun xs => withF 169 a1 (caps1 (fun b1_0 => withR (Ty.sl TColumn) b1_0 fun k0 => (Sm (Ty.sl (Ty.sl TValue)) xs) ∧ (Sm (Ty.sl TColumn) k0) ∧ K (.data Ty.bool (List.any xs (fun e => !M.rowFits k0 e))) []))) args hp, .plain⟩
def cons168 : Cons := [(169, c169), (197, c197)]
def inl168 : List (Nat × Inl) := []
@[reducible] def C168 : Ctx := ⟨tab, fun t => memN t cmps, cons168, 9, inl168, 0, false⟩
theorem consOk168 : ConsOk P C168 := by
  refine consOk_cons (enter_ok (fn := f169) func169 (by kernel_rfl) rfl) con169_ok ?_
  refine consOk_cons (enter_ok (fn := f197) func197 (by kernel_rfl) rfl) con197_ok ?_
  exact consOk_nil
def ann168 : Nat → List Dir
  | 0 => [.keep [0, 1]]
  | 1 => [.keep [4]]
  | _ => []
def L168 (xs : (List (List (TValue).D))) (k0 : (List (TColumn).D)) : Loops := fun id m st_ K => match id with
  | _ => False
theorem vc168 (xs : (List (List (TValue).D))) (k0 : (List (TColumn).D)) (K : AV → Hp → Prop) : awp C168 (L168 xs k0) ann168 (bodyOf f168) ⟨argEnv 0 [.brw (Ty.sl TValue) xs, .fn 169 [.ref (.data (Ty.sl TColumn) k0)]], []⟩ (outK tab false f168.results.toList (hasBox []) (resK (.dat Ty.bool) K)) =
  ((Sm (Ty.sl (Ty.sl TValue)) xs) ∧ (Sm (Ty.sl TColumn) k0) ∧ K (.data Ty.bool (decide ((0 : Int) ≤ (M.idx (t := (Ty.sl TValue)) (fun e => !M.rowFits k0 e) xs)))) []) := by kernel_rfl
theorem con168_ok : ConOk P 168 c168 := by
  refine con_okR (fn := f168) (code := bodyOf f168) (tab_ok tab_check cmp_check) consOk168 mixed func168 rfl rfl fun args hp K h0 => ?_
  obtain ⟨a0, a1, rfl, rfl, h1⟩ := args2_elim h0
  obtain ⟨xs, rfl, h2⟩ := withB_elim h1
  obtain ⟨cs1, rfl, h3⟩ := withF_elim h2
  obtain ⟨b1_0, rfl, h4⟩ := caps1_elim h3
  obtain ⟨k0, rfl, h5⟩ := withR_elim h4
  obtain ⟨h_xs, h_k0, hK⟩ := h5
  have h : ok (F.ContainsFunc_impl_RowsOk_1 xs k0) (fun r => K (.data Ty.bool r) []) := ok_of_eq (F.ContainsFunc_impl_RowsOk_1_eq xs k0 h_xs h_k0) hK
  refine ⟨⟨show (2 : Nat) ≤ 9 by decide, show (2 : Nat) ≤ 1000000 by decide⟩, ann168, (L168 xs k0), (.dat Ty.bool), (no_loops (by kernel_rfl)), ?_⟩
  · rw [vc168 xs k0 K]
    exact ⟨h_xs, ⟨h_k0, (have h := ok_ret h; h)⟩⟩

/-! 132: loop.example/tablehouse/impl.RowsOk -/
def c132 : Con := ⟨[.dat (Ty.sl TColumn), .dat (Ty.sl (Ty.sl TValue))], fun args hp K => args2 (fun a0 a1 => withD (Ty.sl TColumn) a0 fun columns => withD (Ty.sl (Ty.sl TValue)) a1 fun rows => (Sm (Ty.sl TColumn) columns) ∧ (Sm (Ty.sl (Ty.sl TValue)) rows) ∧ K (.data Ty.bool (M.rowsOk columns rows)) []) args hp, .plain⟩
def cons132 : Cons := [(131, c131), (168, c168), (169, c169)]
def inl132 : List (Nat × Inl) := []
@[reducible] def C132 : Ctx := ⟨tab, fun t => memN t cmps, cons132, 13, inl132, 0, false⟩
theorem consOk132 : ConsOk P C132 := by
  refine consOk_cons (enter_ok (fn := f131) func131 (by kernel_rfl) rfl) con131_ok ?_
  refine consOk_cons (enter_ok (fn := f168) func168 (by kernel_rfl) rfl) con168_ok ?_
  refine consOk_cons (enter_ok (fn := f169) func169 (by kernel_rfl) rfl) con169_ok ?_
  exact consOk_nil
def ann132 : Nat → List Dir
  | 0 => [.fixBox 2, .keep [1, 2]]
  | 1 => [.keep [4]]
  | _ => []
def L132 (columns : (List (TColumn).D)) (rows : (List (List (TValue).D))) : Loops := fun id m st_ K => match id with
  | _ => False
theorem vc132 (columns : (List (TColumn).D)) (rows : (List (List (TValue).D))) (K : AV → Hp → Prop) : awp C132 (L132 columns rows) ann132 (bodyOf f132) ⟨argEnv 0 [.data (Ty.sl TColumn) columns, .data (Ty.sl (Ty.sl TValue)) rows], []⟩ (outK tab false f132.results.toList (hasBox []) (resK (.dat Ty.bool) K)) =
  ((Sm (Ty.sl TColumn) columns) ∧ cond ((M.columnsOk columns) == true) ((Sm (Ty.sl (Ty.sl TValue)) rows) ∧ (Sm (Ty.sl TColumn) columns) ∧ K (.data Ty.bool (!(List.any rows (fun e => !M.rowFits columns e)))) []) (K (.data Ty.bool false) [])) := by kernel_rfl
theorem con132_ok : ConOk P 132 c132 := by
  refine con_okR (fn := f132) (code := bodyOf f132) (tab_ok tab_check cmp_check) consOk132 mixed func132 rfl rfl fun args hp K h0 => ?_
  obtain ⟨a0, a1, rfl, rfl, h1⟩ := args2_elim h0
  obtain ⟨columns, rfl, h2⟩ := withD_elim h1
  obtain ⟨rows, rfl, h3⟩ := withD_elim h2
  obtain ⟨h_columns, h_rows, hK⟩ := h3
  have h : ok (F.impl_RowsOk columns rows) (fun r => K (.data Ty.bool r) []) := ok_of_eq (F.impl_RowsOk_eq columns rows h_columns h_rows) hK
  refine ⟨⟨show (2 : Nat) ≤ 13 by decide, show (2 : Nat) ≤ 1000000 by decide⟩, ann132, (L132 columns rows), (.dat Ty.bool), (no_loops (by kernel_rfl)), ?_⟩
  · rw [vc132 columns rows K]
    exact ⟨h_columns, (ok_cond h (fun b_1 h => ⟨h_rows, ⟨h_columns, (have h := ok_ret h; h)⟩⟩) (fun b_1 h => (have h := ok_ret h; h)))⟩

/-! 130: loop.example/tablehouse/impl.TablesOk$1 -/
def c130 : Con := ⟨[.dat TTable], fun args hp K => args1 (fun a0 => withD TTable a0 fun t => (Sm TTable t) ∧ K (.data Ty.bool (!M.tableOk t)) []) args hp, .plain⟩
def cons130 : Cons := [(131, c131), (132, c132)]
def inl130 : List (Nat × Inl) := []
@[reducible] def C130 : Ctx := ⟨tab, fun t => memN t cmps, cons130, 21, inl130, 0, false⟩
theorem consOk130 : ConsOk P C130 := by
  refine consOk_cons (enter_ok (fn := f131) func131 (by kernel_rfl) rfl) con131_ok ?_
  refine consOk_cons (enter_ok (fn := f132) func132 (by kernel_rfl) rfl) con132_ok ?_
  exact consOk_nil
def ann130 : Nat → List Dir
  | 0 => [.fixRow 1 TTable, .keep [1]]
  | 1 => [.keep [2]]
  | _ => []
def L130 (t : (TTable).D) : Loops := fun id m st_ K => match id with
  | _ => False
theorem vc130 (t : (TTable).D) (K : AV → Hp → Prop) : awp C130 (L130 t) ann130 (bodyOf f130) ⟨argEnv 0 [.data TTable t], []⟩ (outK tab false f130.results.toList (hasBox []) (resK (.dat Ty.bool) K)) =
  ((Sm (Ty.sl TColumn) t.1) ∧ cond ((!(M.columnsOk t.1)) == false) (cond ((decide ((6 : Int) < (t.2.1.length : Int))) == false) ((Sm (Ty.sl TColumn) t.1) ∧ (Sm (Ty.sl (Ty.sl TValue)) t.2.1) ∧ K (.data Ty.bool (!(M.rowsOk t.1 t.2.1))) []) (K (.data Ty.bool true) [])) (K (.data Ty.bool true) [])) := by kernel_rfl
theorem con130_ok : ConOk P 130 c130 := by
  refine con_okR (fn := f130) (code := bodyOf f130) (tab_ok tab_check cmp_check) consOk130 mixed func130 rfl rfl fun args hp K h0 => ?_
  obtain ⟨a0, rfl, rfl, h1⟩ := args1_elim h0
  obtain ⟨t, rfl, h2⟩ := withD_elim h1
  obtain ⟨h_t, hK⟩ := h2
  have h : ok (F.impl_TablesOk_1 t) (fun r => K (.data Ty.bool r) []) := ok_of_eq (F.impl_TablesOk_1_eq t h_t) hK
  refine ⟨⟨show (1 : Nat) ≤ 21 by decide, show (1 : Nat) ≤ 1000000 by decide⟩, ann130, (L130 t), (.dat Ty.bool), (no_loops (by kernel_rfl)), ?_⟩
  · rw [vc130 t K]
    exact ⟨h_t.1, (ok_cond h (fun b_1 h => (ok_cond h (fun b_2 h => ⟨h_t.1, ⟨h_t.2.1, (have h := ok_ret h; h)⟩⟩) (fun b_2 h => (have h := ok_ret h; h)))) (fun b_1 h => (have h := ok_ret h; h)))⟩

/-! 165: slices.IndexFunc[[]loop.example/tablehouse/impl.Table,loop.example/tablehouse/impl.Table] -/
def c165 : Con := ⟨[.lent TTable, .any], fun args hp K => args2 (fun a0 a1 => withB TTable a0 fun xs => withF 130 a1 (caps0 ((Sm (Ty.sl TTable) xs) ∧ K (.data TInt (M.idx (t := TTable) (fun e => !M.tableOk e) xs)) []))) args hp, .plain⟩
def cons165 : Cons := [(130, c130)]
def inl165 : List (Nat × Inl) := []
@[reducible] def C165 : Ctx := ⟨tab, fun t => memN t cmps, cons165, 19, inl165, 0, false⟩
theorem consOk165 : ConsOk P C165 := by
  refine consOk_cons (enter_ok (fn := f130) func130 (by kernel_rfl) rfl) con130_ok ?_
  exact consOk_nil
def ann165 : Nat → List Dir
  | 0 => [.keep [0, 1]]
  | 1 => [.keep [0, 1, 7, 8]]
  | 2 => [.keep [0, 1, 7, 8, 9]]
  | 3 => [.keep [0, 1, 5, 7, 8]]
  | 4 => [.keep [0, 1, 5, 7, 8, 16]]
  | 5 => [.keep [4]]
  | 6 => [.keep [0, 1, 7, 8]]
  | 7 => [.keep [4]]
  | 100000 => [.keep []]
  | _ => []
@[reducible] def LP165_0 (xs : (List (TTable).D)) (m : Nat) (st_ : St) (K : X → St → Prop) : Prop := (True) ∧ LoopI (fun (i0 : Int) (v0 : Unit) => (⟨[(0, .brw TTable xs), (1, .fn 130 []), (7, .data TInt (xs.length : Int)), (8, .data TInt i0)], []⟩ : St)) (0 : Int) (xs.length : Int) (F.IndexFunc_impl_TablesOk_1_l0 xs) (fun v0 : Unit => True) (outD (fun v0 : Unit => True → K (.exit 0) (⟨[], []⟩ : St)) (fun q0 : Int => K .ret (⟨[(4, .data TInt q0)], []⟩ : St))) m st_
def L165 (xs : (List (TTable).D)) : Loops := fun id m st_ K => match id with
  | 0 => LP165_0 xs m st_ K
  | _ => False
theorem vc165 (xs : (List (TTable).D)) (K : AV → Hp → Prop) : awp C165 (L165 xs) ann165 (bodyOf f165) ⟨argEnv 0 [.brw TTable xs, .fn 130 []], []⟩ (outK tab false f165.results.toList (hasBox []) (resK (.dat TInt) K)) =
  ((∃ m_, (True) ∧ LoopI (fun (i0 : Int) (v0 : Unit) => (⟨[(0, .brw TTable xs), (1, .fn 130 []), (7, .data TInt (xs.length : Int)), (8, .data TInt i0)], []⟩ : St)) (0 : Int) (xs.length : Int) (F.IndexFunc_impl_TablesOk_1_l0 xs) (fun v0 : Unit => True) (outD (fun v0 : Unit => True → K (.data TInt (-1 : Int)) []) (fun q0 : Int => K (.data TInt q0) [])) m_ (⟨[(0, .brw TTable xs), (1, .fn 130 []), (7, .data TInt (xs.length : Int)), (8, .data TInt (0 : Int))], []⟩ : St))) := by kernel_rfl
theorem lvc165_0 (xs : (List (TTable).D))  (i0 : Int) (v0 : Unit) (m : Nat) (K : X → St → Prop) : awp C165 (L165 xs) ann165 (loopAt (bodyOf f165) 0) (⟨[(0, .brw TTable xs), (1, .fn 130 []), (7, .data TInt (xs.length : Int)), (8, .data TInt i0)], []⟩ : St) (thenW (fun s' => ∃ m', m' < m ∧ (L165 xs) 0 m' s' K) (exitN 0 (ann165 (behind 0)) K)) =
  (cond (decide (i0 < (xs.length : Int))) ((0 ≤ i0) ∧ (i0 < (xs.length : Int)) ∧ (Sm TTable (nth (t := TTable) xs i0)) ∧ cond (!M.tableOk (nth (t := TTable) xs i0)) (K .ret (⟨[(4, .data TInt i0)], []⟩ : St)) ((∃ m_, m_ < m ∧ (L165 xs) 0 m_ (⟨[(0, .brw TTable xs), (1, .fn 130 []), (7, .data TInt (xs.length : Int)), (8, .data TInt (wrap64 (i0 + (1 : Int))))], []⟩ : St) K))) (K (.exit 0) (⟨[], []⟩ : St))) := by kernel_rfl
theorem con165_ok : ConOk P 165 c165 := by
  refine con_okR (fn := f165) (code := bodyOf f165) (tab_ok tab_check cmp_check) consOk165 mixed func165 rfl rfl fun args hp K h0 => ?_
  obtain ⟨a0, a1, rfl, rfl, h1⟩ := args2_elim h0
  obtain ⟨xs, rfl, h2⟩ := withB_elim h1
  obtain ⟨cs1, rfl, h3⟩ := withF_elim h2
  obtain ⟨rfl, h4⟩ := caps0_elim h3
  obtain ⟨h_xs, hK⟩ := h4
  have h : ok (F.IndexFunc_impl_TablesOk_1 xs) (fun r => K (.data TInt r) []) := ok_of_eq (F.IndexFunc_impl_TablesOk_1_eq xs h_xs) hK
  refine ⟨⟨show (2 : Nat) ≤ 19 by decide, show (2 : Nat) ≤ 1000000 by decide⟩, ann165, (L165 xs), (.dat TInt), (loopsN1 (i0 := 0) (by kernel_rfl) ?_), ?_⟩
  · clear h
    intro m_ s_ K_ h
    obtain ⟨hc0, i0, v0, rfl, hl0, rfl, hv0, h⟩ := (show LP165_0 xs m_ s_ K_ from h)
    rw [lvc165_0 xs i0 v0 _ K_]
    exact (loopI_step h (fun ht0 h => ⟨hl0, ⟨ht0, ⟨(sm_nth h_xs i0), (ok_cond h (fun b_9 h => (have h := ok_ret h; h)) (fun b_9 h => (loopI_next (fun m hm => (show LP165_0 xs m _ _ from ⟨hc0, hm⟩)) () rfl hl0 low0 ht0 (sm_len h_xs) trivial (have h := ok_ret h; h))))⟩⟩⟩) (fun h => (h trivial)))
  · rw [vc165 xs K]
    exact (loopI_start (fun m hm => ⟨trivial, hm⟩) (0 : Int) () rfl (Int.natCast_nonneg 0) trivial (ok_then h (fun v0 h hv0 => (have h := ok_ret h; h)) (fun q0 h => (have h := ok_ret h; h))))

/-! 129: slices.ContainsFunc[[]loop.example/tablehouse/impl.Table,loop.example/tablehouse/impl.Table] -/
def c129 : Con := ⟨[.lent TTable, .any], fun args hp K => args2 (fun a0 a1 => withB TTable a0 fun xs => withF 130 a1 (caps0 ((Sm (Ty.sl TTable) xs) ∧ K (.data Ty.bool (List.any xs (fun e => !M.tableOk e))) []))) args hp, .plain⟩
def cons129 : Cons := [(130, c130), (165, c165)]
def inl129 : List (Nat × Inl) := []
@[reducible] def C129 : Ctx := ⟨tab, fun t => memN t cmps, cons129, 9, inl129, 0, false⟩
theorem consOk129 : ConsOk P C129 := by
  refine consOk_cons (enter_ok (fn := f130) func130 (by kernel_rfl) rfl) con130_ok ?_
  refine consOk_cons (enter_ok (fn := f165) func165 (by kernel_rfl) rfl) con165_ok ?_
  exact consOk_nil
def ann129 : Nat → List Dir
  | 0 => [.keep [0, 1]]
  | 1 => [.keep [4]]
  | _ => []
def L129 (xs : (List (TTable).D)) : Loops := fun id m st_ K => match id with
  | _ => False
theorem vc129 (xs : (List (TTable).D)) (K : AV → Hp → Prop) : awp C129 (L129 xs) ann129 (bodyOf f129) ⟨argEnv 0 [.brw TTable xs, .fn 130 []], []⟩ (outK tab false f129.results.toList (hasBox []) (resK (.dat Ty.bool) K)) =
  ((Sm (Ty.sl TTable) xs) ∧ K (.data Ty.bool (decide ((0 : Int) ≤ (M.idx (t := TTable) (fun e => !M.tableOk e) xs)))) []) := by kernel_rfl
theorem con129_ok : ConOk P 129 c129 := by
  refine con_okR (fn := f129) (code := bodyOf f129) (tab_ok tab_check cmp_check) consOk129 mixed func129 rfl rfl fun args hp K h0 => ?_
  obtain ⟨a0, a1, rfl, rfl, h1⟩ := args2_elim h0
  obtain ⟨xs, rfl, h2⟩ := withB_elim h1
  obtain ⟨cs1, rfl, h3⟩ := withF_elim h2
  obtain ⟨rfl, h4⟩ := caps0_elim h3
  obtain ⟨h_xs, hK⟩ := h4
  have h : ok (F.ContainsFunc_impl_TablesOk_1 xs) (fun r => K (.data Ty.bool r) []) := ok_of_eq (F.ContainsFunc_impl_TablesOk_1_eq xs h_xs) hK
  refine ⟨⟨show (2 : Nat) ≤ 9 by decide, show (2 : Nat) ≤ 1000000 by decide⟩, ann129, (L129 xs), (.dat Ty.bool), (no_loops (by kernel_rfl)), ?_⟩
  · rw [vc129 xs K]
    exact ⟨h_xs, (have h := ok_ret h; h)⟩

/-! 99: loop.example/tablehouse/impl.TablesOk -/
def c99 : Con := ⟨[.dat (Ty.sl TTable)], fun args hp K => args1 (fun a0 => withD (Ty.sl TTable) a0 fun tables => (Sm (Ty.sl TTable) tables) ∧ K (.data Ty.bool (M.tablesOk tables)) []) args hp, .plain⟩
def cons99 : Cons := [(129, c129)]
def inl99 : List (Nat × Inl) := []
@[reducible] def C99 : Ctx := ⟨tab, fun t => memN t cmps, cons99, 11, inl99, 0, false⟩
theorem consOk99 : ConsOk P C99 := by
  refine consOk_cons (enter_ok (fn := f129) func129 (by kernel_rfl) rfl) con129_ok ?_
  exact consOk_nil
def ann99 : Nat → List Dir
  | 0 => [.keep [0]]
  | 1 => [.keep [2]]
  | _ => []
def L99 (tables : (List (TTable).D)) : Loops := fun id m st_ K => match id with
  | _ => False
theorem vc99 (tables : (List (TTable).D)) (K : AV → Hp → Prop) : awp C99 (L99 tables) ann99 (bodyOf f99) ⟨argEnv 0 [.data (Ty.sl TTable) tables], []⟩ (outK tab false f99.results.toList (hasBox []) (resK (.dat Ty.bool) K)) =
  (cond ((decide ((tables.length : Int) ≤ (3 : Int))) == true) ((Sm (Ty.sl TTable) tables) ∧ K (.data Ty.bool (!(List.any tables (fun e => !M.tableOk e)))) []) (K (.data Ty.bool false) [])) := by kernel_rfl
theorem con99_ok : ConOk P 99 c99 := by
  refine con_okR (fn := f99) (code := bodyOf f99) (tab_ok tab_check cmp_check) consOk99 mixed func99 rfl rfl fun args hp K h0 => ?_
  obtain ⟨a0, rfl, rfl, h1⟩ := args1_elim h0
  obtain ⟨tables, rfl, h2⟩ := withD_elim h1
  obtain ⟨h_tables, hK⟩ := h2
  have h : ok (F.impl_TablesOk tables) (fun r => K (.data Ty.bool r) []) := ok_of_eq (F.impl_TablesOk_eq tables h_tables) hK
  refine ⟨⟨show (1 : Nat) ≤ 11 by decide, show (1 : Nat) ≤ 1000000 by decide⟩, ann99, (L99 tables), (.dat Ty.bool), (no_loops (by kernel_rfl)), ?_⟩
  · rw [vc99 tables K]
    exact (ok_cond h (fun b_1 h => ⟨h_tables, (have h := ok_ret h; h)⟩) (fun b_1 h => (have h := ok_ret h; h)))

/-! 133: (loop.example/tablehouse/impl.Part).takes -/
def c133 : Con := ⟨[.dat TPart], fun args hp K => args1 (fun a0 => withD TPart a0 fun p => (Sm TPart p) ∧ K (.data TInt (M.takes p)) []) args hp, .plain⟩
def cons133 : Cons := []
def inl133 : List (Nat × Inl) := []
@[reducible] def C133 : Ctx := ⟨tab, fun t => memN t cmps, cons133, 13, inl133, 0, false⟩
theorem consOk133 : ConsOk P C133 := by
  exact consOk_nil
def ann133 : Nat → List Dir
  | 0 => [.fixRow 1 TPart, .keep [1]]
  | 1 => [.keep [4]]
  | 2 => [.keep [4, 5]]
  | 3 => [.keep [4, 5]]
  | 4 => [.keep [4, 5]]
  | 5 => [.keep [4, 5]]
  | 6 => [.keep [2]]
  | 7 => [.keep [4, 10]]
  | 8 => [.keep [10]]
  | 9 => [.keep [2]]
  | 10 => [.keep [2]]
  | _ => []
def L133 (p : (TPart).D) : Loops := fun id m st_ K => match id with
  | _ => False
@[reducible] def S133_0 (p : (TPart).D) (K : AV → Hp → Prop) : Prop := cond (decide (p.1 = (7 : Int))) (cond (decide (p.1 = (7 : Int))) (K (.data TInt (1 : Int)) []) (K (.data TInt (0 : Int)) [])) (cond (decide (p.1 = (8 : Int))) (K (.data TInt (1 : Int)) []) (K (.data TInt (0 : Int)) []))
theorem vc133 (p : (TPart).D) (K : AV → Hp → Prop) : awp C133 (L133 p) ann133 (bodyOf f133) ⟨argEnv 0 [.data TPart p], []⟩ (outK tab false f133.results.toList (hasBox []) (resK (.dat TInt) K)) =
  (cond (decide (p.1 = (3 : Int))) (cond (decide (p.1 = (3 : Int))) (K (.data TInt (2 : Int)) []) ((S133_0 p K))) (cond (decide (p.1 = (4 : Int))) (cond (decide (p.1 = (4 : Int))) (K (.data TInt (2 : Int)) []) ((S133_0 p K))) (cond (decide (p.1 = (5 : Int))) (cond (decide (p.1 = (5 : Int))) (K (.data TInt (2 : Int)) []) ((S133_0 p K))) (cond (decide (p.1 = (6 : Int))) (K (.data TInt (2 : Int)) []) ((S133_0 p K)))))) := by kernel_rfl
theorem con133_ok : ConOk P 133 c133 := by
  refine con_okR (fn := f133) (code := bodyOf f133) (tab_ok tab_check cmp_check) consOk133 mixed func133 rfl rfl fun args hp K h0 => ?_
  obtain ⟨a0, rfl, rfl, h1⟩ := args1_elim h0
  obtain ⟨p, rfl, h2⟩ := withD_elim h1
  obtain ⟨h_p, hK⟩ := h2
  have h : ok (F.impl_Part_takes p) (fun r => K (.data TInt r) []) := ok_of_eq (F.impl_Part_takes_eq p h_p) hK
  refine ⟨⟨show (1 : Nat) ≤ 13 by decide, show (1 : Nat) ≤ 1000000 by decide⟩, ann133, (L133 p), (.dat TInt), (no_loops (by kernel_rfl)), ?_⟩
  · rw [vc133 p K]
    exact (ok_cond h (fun b_1 h => (cond_t b_1 (have h := ok_ret h; h))) (fun b_1 h => (ok_cond h (fun b_6 h => (cond_t b_6 (have h := ok_ret h; h))) (fun b_6 h => (ok_cond h (fun b_11 h => (cond_t b_11 (have h := ok_ret h; h))) (fun b_11 h => (ok_cond h (fun b_16 h => (have h := ok_ret h; h)) (fun b_16 h => (ok_cond h (fun b_17 h => (cond_t b_17 (have h := ok_ret h; h))) (fun b_17 h => (ok_cond h (fun b_19 h => (have h := ok_ret h; h)) (fun b_19 h => (have h := ok_ret h; h)))))))))))))

/-! 134: (loop.example/tablehouse/impl.Part).tells -/
def c134 : Con := ⟨[.dat TPart, .dat (Ty.sl TColumn)], fun args hp K => args2 (fun a0 a1 => withD TPart a0 fun p => withD (Ty.sl TColumn) a1 fun columns => (Sm TPart p) ∧ (Sm (Ty.sl TColumn) columns) ∧ K (.data Ty.bool (M.tells p columns)) []) args hp, .plain⟩
def cons134 : Cons := [(66, c66), (171, c171)]
def inl134 : List (Nat × Inl) := []
@[reducible] def C134 : Ctx := ⟨tab, fun t => memN t cmps, cons134, 63, inl134, 0, false⟩
theorem consOk134 : ConsOk P C134 := by
  refine consOk_cons (enter_ok (fn := f66) func66 (by kernel_rfl) rfl) con66_ok ?_
  refine consOk_cons (enter_ok (fn := f171) func171 (by kernel_rfl) rfl) con171_ok ?_
  exact consOk_nil
def ann134 : Nat → List Dir
  | 0 => [.fixRow 2 TPart, .keep [1, 2]]
  | 1 => [.keep [1, 2, 6]]
  | 2 => [.keep [1, 2, 6, 7]]
  | 3 => [.keep [4]]
  | 4 => [.keep [1, 2, 6, 23]]
  | 5 => [.keep [4]]
  | 6 => [.keep [2, 6, 37]]
  | 7 => [.keep [4]]
  | 8 => [.keep [2, 6, 48]]
  | 9 => [.keep [2, 6, 48]]
  | 10 => [.keep [2, 6, 48]]
  | 11 => [.keep [2, 6, 48]]
  | 12 => [.keep [2, 48]]
  | 13 => [.keep [4]]
  | 14 => [.keep [4]]
  | _ => []
def L134 (p : (TPart).D) (columns : (List (TColumn).D)) : Loops := fun id m st_ K => match id with
  | _ => False
@[reducible] def S134_0 (p : (TPart).D) (columns : (List (TColumn).D)) (K : AV → Hp → Prop) : Prop := cond ((decide (p.2.1 = (0 : Int))) == true) (K (.data Ty.bool (Ty.beq TValue p.2.2.1 ((0 : Int), ((0 : Int), ((⟨#[]⟩ : ByteArray), ()))))) []) (K (.data Ty.bool false) [])
theorem vc134 (p : (TPart).D) (columns : (List (TColumn).D)) (K : AV → Hp → Prop) : awp C134 (L134 p columns) ann134 (bodyOf f134) ⟨argEnv 0 [.data TPart p, .data (Ty.sl TColumn) columns], []⟩ (outK tab false f134.results.toList (hasBox []) (resK (.dat Ty.bool) K)) =
  (cond (decide (p.1 = (1 : Int))) (cond ((decide (p.2.1 = (0 : Int))) == true) ((Sm TValue p.2.2.1) ∧ cond ((M.valueOk p.2.2.1) == true) (K (.data Ty.bool (!decide (p.2.2.1.1 = (0 : Int)))) []) (K (.data Ty.bool false) [])) (K (.data Ty.bool false) [])) (cond (decide (p.1 = (2 : Int))) (cond ((M.inR p.2.1 (0 : Int) (wrap64 ((columns.length : Int) - (1 : Int)))) == true) (K (.data Ty.bool (Ty.beq TValue p.2.2.1 ((0 : Int), ((0 : Int), ((⟨#[]⟩ : ByteArray), ()))))) []) (K (.data Ty.bool false) [])) (cond (decide (p.1 = (4 : Int))) (cond ((M.inR p.2.1 (1 : Int) (4 : Int)) == true) (K (.data Ty.bool (Ty.beq TValue p.2.2.1 ((0 : Int), ((0 : Int), ((⟨#[]⟩ : ByteArray), ()))))) []) (K (.data Ty.bool false) [])) (cond (decide (p.1 = (3 : Int))) (cond (decide (p.1 = (3 : Int))) ((S134_0 p columns K)) (K (.data Ty.bool false) [])) (cond (decide (p.1 = (5 : Int))) (cond (decide (p.1 = (5 : Int))) ((S134_0 p columns K)) (K (.data Ty.bool false) [])) (cond (decide (p.1 = (6 : Int))) (cond (decide (p.1 = (6 : Int))) ((S134_0 p columns K)) (K (.data Ty.bool false) [])) (cond (decide (p.1 = (7 : Int))) (cond (decide (p.1 = (7 : Int))) ((S134_0 p columns K)) (K (.data Ty.bool false) [])) (cond (decide (p.1 = (8 : Int))) ((S134_0 p columns K)) (K (.data Ty.bool false) []))))))))) := by kernel_rfl
theorem con134_ok : ConOk P 134 c134 := by
  refine con_okR (fn := f134) (code := bodyOf f134) (tab_ok tab_check cmp_check) consOk134 mixed func134 rfl rfl fun args hp K h0 => ?_
  obtain ⟨a0, a1, rfl, rfl, h1⟩ := args2_elim h0
  obtain ⟨p, rfl, h2⟩ := withD_elim h1
  obtain ⟨columns, rfl, h3⟩ := withD_elim h2
  obtain ⟨h_p, h_columns, hK⟩ := h3
  have h : ok (F.impl_Part_tells p columns) (fun r => K (.data Ty.bool r) []) := ok_of_eq (F.impl_Part_tells_eq p columns h_p h_columns) hK
  refine ⟨⟨show (2 : Nat) ≤ 63 by decide, show (2 : Nat) ≤ 1000000 by decide⟩, ann134, (L134 p columns), (.dat Ty.bool), (no_loops (by kernel_rfl)), ?_⟩
  · rw [vc134 p columns K]
    exact (ok_cond h (fun b_1 h => (ok_cond h (fun b_2 h => ⟨h_p.2.2.1, (ok_cond h (fun b_3 h => (have h := ok_ret h; h)) (fun b_3 h => (have h := ok_ret h; h)))⟩) (fun b_2 h => (have h := ok_ret h; h)))) (fun b_1 h => (ok_cond h (fun b_4 h => (ok_cond h (fun b_5 h => (have h := ok_ret h; h)) (fun b_5 h => (have h := ok_ret h; h)))) (fun b_4 h => (ok_cond h (fun b_6 h => (ok_cond h (fun b_7 h => (have h := ok_ret h; h)) (fun b_7 h => (have h := ok_ret h; h)))) (fun b_6 h => (ok_cond h (fun b_8 h => (cond_t b_8 (ok_cond h (fun b_10 h => (have h := ok_ret h; h)) (fun b_10 h => (have h := ok_ret h; h))))) (fun b_8 h => (ok_cond h (fun b_11 h => (cond_t b_11 (ok_cond h (fun b_13 h => (have h := ok_ret h; h)) (fun b_13 h => (have h := ok_ret h; h))))) (fun b_11 h => (ok_cond h (fun b_14 h => (cond_t b_14 (ok_cond h (fun b_16 h => (have h := ok_ret h; h)) (fun b_16 h => (have h := ok_ret h; h))))) (fun b_14 h => (ok_cond h (fun b_17 h => (cond_t b_17 (ok_cond h (fun b_19 h => (have h := ok_ret h; h)) (fun b_19 h => (have h := ok_ret h; h))))) (fun b_17 h => (ok_cond h (fun b_20 h => (ok_cond h (fun b_21 h => (have h := ok_ret h; h)) (fun b_21 h => (have h := ok_ret h; h)))) (fun b_20 h => (have h := ok_ret h; h)))))))))))))))))

/-! 174: (loop.example/tablehouse/impl.Part).kind$1$1 -/
def c174 : Con := ⟨[.dat TInt, .any], fun args hp K => args2 (fun a0 a1 => withD TInt a0 fun k => withR TInt a1 fun kind => K (.data Ty.bool (!decide (k = kind))) []) args hp, .plain⟩
def cons174 : Cons := []
def inl174 : List (Nat × Inl) := []
@[reducible] def C174 : Ctx := ⟨tab, fun t => memN t cmps, cons174, 7, inl174, 0, false⟩
theorem consOk174 : ConsOk P C174 := by
  exact consOk_nil
def ann174 : Nat → List Dir
  | 0 => [.keep [0, 1]]
  | 1 => [.keep [3]]
  | _ => []
def L174 (k : Int) (kind : Int) : Loops := fun id m st_ K => match id with
  | _ => False
theorem vc174 (k : Int) (kind : Int) (K : AV → Hp → Prop) : awp C174 (L174 k kind) ann174 (bodyOf f174) ⟨argEnv 0 [.data TInt k, .ref (.data TInt kind)], []⟩ (outK tab false f174.results.toList (hasBox []) (resK (.dat Ty.bool) K)) =
  (K (.data Ty.bool (!decide (k = kind))) []) := by kernel_rfl
theorem con174_ok : ConOk P 174 c174 := by
  refine con_okR (fn := f174) (code := bodyOf f174) (tab_ok tab_check cmp_check) consOk174 mixed func174 rfl rfl fun args hp K h0 => ?_
  obtain ⟨a0, a1, rfl, rfl, h1⟩ := args2_elim h0
  obtain ⟨k, rfl, h2⟩ := withD_elim h1
  obtain ⟨kind, rfl, h3⟩ := withR_elim h2
  have hK := h3
  have h : ok (F.impl_Part_kind_1_1 k kind) (fun r => K (.data Ty.bool r) []) := ok_of_eq (F.impl_Part_kind_1_1_eq k kind) hK
  refine ⟨⟨show (2 : Nat) ≤ 7 by decide, show (2 : Nat) ≤ 1000000 by decide⟩, ann174, (L174 k kind), (.dat Ty.bool), (no_loops (by kernel_rfl)), ?_⟩
  · rw [vc174 k kind K]
    exact (have h := ok_ret h; h)

/-! 200: slices.IndexFunc[[]int,int] -/
def c200 : Con := ⟨[.lent TInt, .any], fun args hp K => args2 (fun a0 a1 => withB TInt a0 fun xs => withF 174 a1 (caps1 (fun b1_0 => withR TInt b1_0 fun k0 => (Sm (Ty.sl TInt) xs) ∧ K (.data TInt (M.idx (t := TInt) (fun e => !decide (e = k0)) xs)) []))) args hp, .plain⟩
def cons200 : Cons := [(174, c174)]
def inl200 : List (Nat × Inl) := []
@[reducible] def C200 : Ctx := ⟨tab, fun t => memN t cmps, cons200, 19, inl200, 0, false⟩
theorem consOk200 : ConsOk P C200 := by
  refine consOk_cons (enter_ok (fn := f174) func174 (by kernel_rfl) rfl) con174_ok ?_
  exact consOk_nil
def ann200 : Nat → List Dir
  | 0 => [.keep [0, 1]]
  | 1 => [.keep [0, 1, 7, 8]]
  | 2 => [.keep [0, 1, 7, 8, 9]]
  | 3 => [.keep [0, 1, 5, 7, 8]]
  | 4 => [.keep [0, 1, 5, 7, 8, 16]]
  | 5 => [.keep [4]]
  | 6 => [.keep [0, 1, 7, 8]]
  | 7 => [.keep [4]]
  | 100000 => [.keep []]
  | _ => []
@[reducible] def LP200_0 (xs : (List Int)) (k0 : Int) (m : Nat) (st_ : St) (K : X → St → Prop) : Prop := (True) ∧ LoopI (fun (i0 : Int) (v0 : Unit) => (⟨[(0, .brw TInt xs), (1, .fn 174 [.ref (.data TInt k0)]), (7, .data TInt (xs.length : Int)), (8, .data TInt i0)], []⟩ : St)) (0 : Int) (xs.length : Int) (F.IndexFunc_impl_Part_kind_1_1_l0 xs k0) (fun v0 : Unit => True) (outD (fun v0 : Unit => True → K (.exit 0) (⟨[], []⟩ : St)) (fun q0 : Int => K .ret (⟨[(4, .data TInt q0)], []⟩ : St))) m st_
def L200 (xs : (List Int)) (k0 : Int) : Loops := fun id m st_ K => match id with
  | 0 => LP200_0 xs k0 m st_ K
  | _ => False
theorem vc200 (xs : (List Int)) (k0 : Int) (K : AV → Hp → Prop) : awp C200 (L200 xs k0) ann200 (bodyOf f200) ⟨argEnv 0 [.brw TInt xs, .fn 174 [.ref (.data TInt k0)]], []⟩ (outK tab false f200.results.toList (hasBox []) (resK (.dat TInt) K)) =
  ((∃ m_, (True) ∧ LoopI (fun (i0 : Int) (v0 : Unit) => (⟨[(0, .brw TInt xs), (1, .fn 174 [.ref (.data TInt k0)]), (7, .data TInt (xs.length : Int)), (8, .data TInt i0)], []⟩ : St)) (0 : Int) (xs.length : Int) (F.IndexFunc_impl_Part_kind_1_1_l0 xs k0) (fun v0 : Unit => True) (outD (fun v0 : Unit => True → K (.data TInt (-1 : Int)) []) (fun q0 : Int => K (.data TInt q0) [])) m_ (⟨[(0, .brw TInt xs), (1, .fn 174 [.ref (.data TInt k0)]), (7, .data TInt (xs.length : Int)), (8, .data TInt (0 : Int))], []⟩ : St))) := by kernel_rfl
theorem lvc200_0 (xs : (List Int)) (k0 : Int)  (i0 : Int) (v0 : Unit) (m : Nat) (K : X → St → Prop) : awp C200 (L200 xs k0) ann200 (loopAt (bodyOf f200) 0) (⟨[(0, .brw TInt xs), (1, .fn 174 [.ref (.data TInt k0)]), (7, .data TInt (xs.length : Int)), (8, .data TInt i0)], []⟩ : St) (thenW (fun s' => ∃ m', m' < m ∧ (L200 xs k0) 0 m' s' K) (exitN 0 (ann200 (behind 0)) K)) =
  (cond (decide (i0 < (xs.length : Int))) ((0 ≤ i0) ∧ (i0 < (xs.length : Int)) ∧ cond (!decide ((nth (t := TInt) xs i0) = k0)) (K .ret (⟨[(4, .data TInt i0)], []⟩ : St)) ((∃ m_, m_ < m ∧ (L200 xs k0) 0 m_ (⟨[(0, .brw TInt xs), (1, .fn 174 [.ref (.data TInt k0)]), (7, .data TInt (xs.length : Int)), (8, .data TInt (wrap64 (i0 + (1 : Int))))], []⟩ : St) K))) (K (.exit 0) (⟨[], []⟩ : St))) := by kernel_rfl
theorem con200_ok : ConOk P 200 c200 := by
  refine con_okR (fn := f200) (code := bodyOf f200) (tab_ok tab_check cmp_check) consOk200 mixed func200 rfl rfl fun args hp K h0 => ?_
  obtain ⟨a0, a1, rfl, rfl, h1⟩ := args2_elim h0
  obtain ⟨xs, rfl, h2⟩ := withB_elim h1
  obtain ⟨cs1, rfl, h3⟩ := withF_elim h2
  obtain ⟨b1_0, rfl, h4⟩ := caps1_elim h3
  obtain ⟨k0, rfl, h5⟩ := withR_elim h4
  obtain ⟨h_xs, hK⟩ := h5
  have h : ok (F.IndexFunc_impl_Part_kind_1_1 xs k0) (fun r => K (.data TInt r) []) := ok_of_eq (F.IndexFunc_impl_Part_kind_1_1_eq xs k0 h_xs) hK
  refine ⟨⟨show (2 : Nat) ≤ 19 by decide, show (2 : Nat) ≤ 1000000 by decide⟩, ann200, (L200 xs k0), (.dat TInt), (loopsN1 (i0 := 0) (by kernel_rfl) ?_), ?_⟩
  · clear h
    intro m_ s_ K_ h
    obtain ⟨hc0, i0, v0, rfl, hl0, rfl, hv0, h⟩ := (show LP200_0 xs k0 m_ s_ K_ from h)
    rw [lvc200_0 xs k0 i0 v0 _ K_]
    exact (loopI_step h (fun ht0 h => ⟨hl0, ⟨ht0, (ok_cond h (fun b_9 h => (have h := ok_ret h; h)) (fun b_9 h => (loopI_next (fun m hm => (show LP200_0 xs k0 m _ _ from ⟨hc0, hm⟩)) () rfl hl0 low0 ht0 (sm_len h_xs) trivial (have h := ok_ret h; h))))⟩⟩) (fun h => (h trivial)))
  · rw [vc200 xs k0 K]
    exact (loopI_start (fun m hm => ⟨trivial, hm⟩) (0 : Int) () rfl (Int.natCast_nonneg 0) trivial (ok_then h (fun v0 h hv0 => (have h := ok_ret h; h)) (fun q0 h => (have h := ok_ret h; h))))

/-! 173: slices.ContainsFunc[[]int,int] -/
def c173 : Con := ⟨[.lent TInt, .any], fun args hp K => args2 (fun a0 a1 => withB TInt a0 fun xs => withF 174 a1 (caps1 (fun b1_0 => withR TInt b1_0 fun k0 => (Sm (Ty.sl TInt) xs) ∧ K (.data Ty.bool (List.any xs (fun e => !decide (e = k0)))) []))) args hp, .plain⟩
def cons173 : Cons := [(174, c174), (200, c200)]
def inl173 : List (Nat × Inl) := []
@[reducible] def C173 : Ctx := ⟨tab, fun t => memN t cmps, cons173, 9, inl173, 0, false⟩
theorem consOk173 : ConsOk P C173 := by
  refine consOk_cons (enter_ok (fn := f174) func174 (by kernel_rfl) rfl) con174_ok ?_
  refine consOk_cons (enter_ok (fn := f200) func200 (by kernel_rfl) rfl) con200_ok ?_
  exact consOk_nil
def ann173 : Nat → List Dir
  | 0 => [.keep [0, 1]]
  | 1 => [.keep [4]]
  | _ => []
def L173 (xs : (List Int)) (k0 : Int) : Loops := fun id m st_ K => match id with
  | _ => False
theorem vc173 (xs : (List Int)) (k0 : Int) (K : AV → Hp → Prop) : awp C173 (L173 xs k0) ann173 (bodyOf f173) ⟨argEnv 0 [.brw TInt xs, .fn 174 [.ref (.data TInt k0)]], []⟩ (outK tab false f173.results.toList (hasBox []) (resK (.dat Ty.bool) K)) =
  ((Sm (Ty.sl TInt) xs) ∧ K (.data Ty.bool (decide ((0 : Int) ≤ (M.idx (t := TInt) (fun e => !decide (e = k0)) xs)))) []) := by kernel_rfl
theorem con173_ok : ConOk P 173 c173 := by
  refine con_okR (fn := f173) (code := bodyOf f173) (tab_ok tab_check cmp_check) consOk173 mixed func173 rfl rfl fun args hp K h0 => ?_
  obtain ⟨a0, a1, rfl, rfl, h1⟩ := args2_elim h0
  obtain ⟨xs, rfl, h2⟩ := withB_elim h1
  obtain ⟨cs1, rfl, h3⟩ := withF_elim h2
  obtain ⟨b1_0, rfl, h4⟩ := caps1_elim h3
  obtain ⟨k0, rfl, h5⟩ := withR_elim h4
  obtain ⟨h_xs, hK⟩ := h5
  have h : ok (F.ContainsFunc_impl_Part_kind_1_1 xs k0) (fun r => K (.data Ty.bool r) []) := ok_of_eq (F.ContainsFunc_impl_Part_kind_1_1_eq xs k0 h_xs) hK
  refine ⟨⟨show (2 : Nat) ≤ 9 by decide, show (2 : Nat) ≤ 1000000 by decide⟩, ann173, (L173 xs k0), (.dat Ty.bool), (no_loops (by kernel_rfl)), ?_⟩
  · rw [vc173 xs k0 K]
    exact ⟨h_xs, (have h := ok_ret h; h)⟩

/-! 172: (loop.example/tablehouse/impl.Part).kind$1 -/
def c172 : Con := ⟨[.dat TInt, .any], fun args hp K => args2 (fun a0 a1 => withD TInt a0 fun kind => withRB TInt a1 fun ins => (Sm (Ty.sl TInt) ins) ∧ K (.data Ty.bool (List.all ins (fun k => decide (k = kind)))) []) args hp, .plain⟩
def cons172 : Cons := [(173, c173), (174, c174)]
def inl172 : List (Nat × Inl) := []
@[reducible] def C172 : Ctx := ⟨tab, fun t => memN t cmps, cons172, 8, inl172, 0, false⟩
theorem consOk172 : ConsOk P C172 := by
  refine consOk_cons (enter_ok (fn := f173) func173 (by kernel_rfl) rfl) con173_ok ?_
  refine consOk_cons (enter_ok (fn := f174) func174 (by kernel_rfl) rfl) con174_ok ?_
  exact consOk_nil
def ann172 : Nat → List Dir
  | 0 => [.fixBox 2, .keep [1, 2]]
  | 1 => [.keep [3]]
  | _ => []
def L172 (kind : Int) (ins : (List Int)) : Loops := fun id m st_ K => match id with
  | _ => False
theorem vc172 (kind : Int) (ins : (List Int)) (K : AV → Hp → Prop) : awp C172 (L172 kind ins) ann172 (bodyOf f172) ⟨argEnv 0 [.data TInt kind, .ref (.brw TInt ins)], []⟩ (outK tab false f172.results.toList (hasBox []) (resK (.dat Ty.bool) K)) =
  ((Sm (Ty.sl TInt) ins) ∧ K (.data Ty.bool (!(List.any ins (fun e => !decide (e = kind))))) []) := by kernel_rfl
theorem con172_ok : ConOk P 172 c172 := by
  refine con_okR (fn := f172) (code := bodyOf f172) (tab_ok tab_check cmp_check) consOk172 mixed func172 rfl rfl fun args hp K h0 => ?_
  obtain ⟨a0, a1, rfl, rfl, h1⟩ := args2_elim h0
  obtain ⟨kind, rfl, h2⟩ := withD_elim h1
  obtain ⟨ins, rfl, h3⟩ := withRB_elim h2
  obtain ⟨h_ins, hK⟩ := h3
  have h : ok (F.impl_Part_kind_1 kind ins) (fun r => K (.data Ty.bool r) []) := ok_of_eq (F.impl_Part_kind_1_eq kind ins h_ins) hK
  refine ⟨⟨show (2 : Nat) ≤ 8 by decide, show (2 : Nat) ≤ 1000000 by decide⟩, ann172, (L172 kind ins), (.dat Ty.bool), (no_loops (by kernel_rfl)), ?_⟩
  · rw [vc172 kind ins K]
    exact ⟨h_ins, (have h := ok_ret h; h)⟩

/-! 135: (loop.example/tablehouse/impl.Part).kind -/
def c135 : Con := ⟨[.dat TPart, .dat (Ty.sl TColumn), .lent TInt], fun args hp K => args3 (fun a0 a1 a2 => withD TPart a0 fun p => withD (Ty.sl TColumn) a1 fun columns => withB TInt a2 fun inp => (Sm TPart p) ∧ (Sm (Ty.sl TColumn) columns) ∧ (Sm (Ty.sl TInt) inp) ∧ (M.tells p columns = true) ∧ ((inp.length : Int) = M.takes p) ∧ (∀ r : Int × Bool, r = (M.partKind p columns inp) → K (.tup [.data TInt r.1, .data Ty.bool r.2]) [])) args hp, .plain⟩
def cons135 : Cons := [(172, c172)]
def inl135 : List (Nat × Inl) := []
@[reducible] def C135 : Ctx := ⟨tab, fun t => memN t cmps, cons135, 42, inl135, 0, false⟩
theorem consOk135 : ConsOk P C135 := by
  refine consOk_cons (enter_ok (fn := f172) func172 (by kernel_rfl) rfl) con172_ok ?_
  exact consOk_nil
def ann135 : Nat → List Dir
  | 0 => [.fixRow 3 TPart, .fixBox 5, .keep [1, 3, 5]]
  | 1 => [.keep [1, 3, 5, 8]]
  | 2 => [.keep [1, 3, 5, 8, 11]]
  | 3 => [.keep [1, 3, 5, 8, 11, 12]]
  | 4 => [.keep [6, 7]]
  | 5 => [.keep [1, 3, 5, 8, 11, 17]]
  | 6 => [.keep [6, 7]]
  | 7 => [.keep [5, 8, 11, 25]]
  | 8 => [.keep [6, 7]]
  | 9 => [.keep [5, 8, 11, 29]]
  | 10 => [.keep [6, 7]]
  | 11 => [.keep [8, 38]]
  | 12 => [.keep [6, 7]]
  | 13 => [.keep [6, 7]]
  | _ => []
def L135 (p : (TPart).D) (columns : (List (TColumn).D)) (inp : (List Int)) : Loops := fun id m st_ K => match id with
  | _ => False
theorem vc135 (p : (TPart).D) (columns : (List (TColumn).D)) (inp : (List Int)) (K : AV → Hp → Prop) : awp C135 (L135 p columns inp) ann135 (bodyOf f135) ⟨argEnv 0 [.data TPart p, .data (Ty.sl TColumn) columns, .brw TInt inp], []⟩ (outK tab false f135.results.toList (hasBox []) (resK (.tup [TInt, Ty.bool]) K)) =
  (cond (decide (p.1 = (1 : Int))) (K (.tup [.data TInt p.2.2.1.1, .data Ty.bool true]) []) (cond (decide (p.1 = (2 : Int))) ((0 ≤ p.2.1) ∧ (p.2.1 < (columns.length : Int)) ∧ K (.tup [.data TInt ((nth (t := TColumn) columns p.2.1).1), .data Ty.bool true]) []) (cond (decide (p.1 = (3 : Int))) ((Sm (Ty.sl TInt) inp) ∧ K (.tup [.data TInt (1 : Int), .data Ty.bool (List.all inp (fun k => decide (k = (1 : Int))))]) []) (cond (decide (p.1 = (4 : Int))) ((0 ≤ (0 : Int)) ∧ ((0 : Int) < (inp.length : Int)) ∧ (0 ≤ (1 : Int)) ∧ ((1 : Int) < (inp.length : Int)) ∧ K (.tup [.data TInt (3 : Int), .data Ty.bool (decide ((nth (t := TInt) inp (0 : Int)) = (nth (t := TInt) inp (1 : Int))))]) []) (cond (decide (p.1 = (8 : Int))) (K (.tup [.data TInt (3 : Int), .data Ty.bool true]) []) ((Sm (Ty.sl TInt) inp) ∧ K (.tup [.data TInt (3 : Int), .data Ty.bool (List.all inp (fun k => decide (k = (3 : Int))))]) [])))))) := by kernel_rfl
theorem con135_ok : ConOk P 135 c135 := by
  refine con_okR (fn := f135) (code := bodyOf f135) (tab_ok tab_check cmp_check) consOk135 mixed func135 rfl rfl fun args hp K h0 => ?_
  obtain ⟨a0, a1, a2, rfl, rfl, h1⟩ := args3_elim h0
  obtain ⟨p, rfl, h2⟩ := withD_elim h1
  obtain ⟨columns, rfl, h3⟩ := withD_elim h2
  obtain ⟨inp, rfl, h4⟩ := withB_elim h3
  obtain ⟨h_p, h_columns, h_inp, p0, p1, hK⟩ := h4
  have h : ok (F.impl_Part_kind p columns inp) (fun r => K (.tup [.data TInt r.1, .data Ty.bool r.2]) []) := ok_of_eq (F.impl_Part_kind_eq p columns inp h_p h_columns h_inp p0 p1) (hK _ rfl)
  refine ⟨⟨show (3 : Nat) ≤ 42 by decide, show (3 : Nat) ≤ 1000000 by decide⟩, ann135, (L135 p columns inp), (.tup [TInt, Ty.bool]), (no_loops (by kernel_rfl)), ?_⟩
  · rw [vc135 p columns inp K]
    exact (ok_cond h (fun b_1 h => (have h := ok_ret h; h)) (fun b_1 h => (ok_cond h (fun b_2 h => ⟨(ok_guard h).1, have h := (ok_guard h).2; ⟨(ok_guard h).1, have h := (ok_guard h).2; (have h := ok_ret h; h)⟩⟩) (fun b_2 h => (ok_cond h (fun b_5 h => ⟨h_inp, (have h := ok_ret h; h)⟩) (fun b_5 h => (ok_cond h (fun b_6 h => ⟨(Int.natCast_nonneg 0), ⟨(ok_guard h).1, have h := (ok_guard h).2; ⟨(Int.natCast_nonneg 1), ⟨(ok_guard h).1, have h := (ok_guard h).2; (have h := ok_ret h; h)⟩⟩⟩⟩) (fun b_6 h => (ok_cond h (fun b_9 h => (have h := ok_ret h; h)) (fun b_9 h => ⟨h_inp, (have h := ok_ret h; h)⟩))))))))))

/-! 100: loop.example/tablehouse/impl.ExprKind -/
def c100 : Con := ⟨[.dat (Ty.sl TColumn), .dat (Ty.sl TPart)], fun args hp K => args2 (fun a0 a1 => withD (Ty.sl TColumn) a0 fun columns => withD (Ty.sl TPart) a1 fun e => (Sm (Ty.sl TColumn) columns) ∧ (Sm (Ty.sl TPart) e) ∧ K (.data TInt (M.exprKind columns e)) []) args hp, .plain⟩
def cons100 : Cons := [(131, c131), (133, c133), (134, c134), (135, c135)]
def inl100 : List (Nat × Inl) := []
@[reducible] def C100 : Ctx := ⟨tab, fun t => memN t cmps, cons100, 67, inl100, 0, false⟩
theorem consOk100 : ConsOk P C100 := by
  refine consOk_cons (enter_ok (fn := f131) func131 (by kernel_rfl) rfl) con131_ok ?_
  refine consOk_cons (enter_ok (fn := f133) func133 (by kernel_rfl) rfl) con133_ok ?_
  refine consOk_cons (enter_ok (fn := f134) func134 (by kernel_rfl) rfl) con134_ok ?_
  refine consOk_cons (enter_ok (fn := f135) func135 (by kernel_rfl) rfl) con135_ok ?_
  exact consOk_nil
def ann100 : Nat → List Dir
  | 0 => [.keep [0, 1]]
  | 1 => [.keep [0, 1, 18]]
  | 2 => [.keep [4]]
  | 3 => [.keep [0, 1, 5]]
  | 4 => [.keep [0, 5, 19, 20, 21]]
  | 5 => [.keep [0, 5, 19, 20, 21, 22]]
  | 6 => [.fixRow 7 TPart, .keep [0, 5, 7, 19, 20, 21]]
  | 7 => [.keep [0, 5, 7, 8, 19, 20, 21]]
  | 8 => [.keep [0, 5, 7, 8, 19, 20, 21, 36]]
  | 9 => [.keep [4]]
  | 10 => [.keep [0, 5, 8, 9, 10, 19, 20, 21]]
  | 11 => [.keep [0, 5, 8, 9, 19, 20, 21, 50]]
  | 12 => [.keep [4]]
  | 13 => [.keep [0, 5, 19, 20, 21]]
  | 14 => [.keep [0, 5, 19, 20, 21]]
  | 15 => [.keep [5, 63]]
  | 16 => [.keep [4]]
  | 17 => [.keep [4]]
  | 100000 => [.keep [5]]
  | _ => []
@[reducible] def LP100_0 (columns : (List (TColumn).D)) (e : (List (TPart).D)) (m : Nat) (st_ : St) (K : X → St → Prop) : Prop := (True) ∧ LoopE (t := TPart) (fun (i0 : Int) (v0 : (List Int)) => (⟨[(0, .data (Ty.sl TColumn) columns), (5, .own 5 none), (19, .data (Ty.sl TPart) e), (20, .data TInt (e.length : Int)), (21, .data TInt i0)], [(5, .arr false TInt v0)]⟩ : St)) e (F.impl_ExprKind_l0 columns e) (fun v0 : (List Int) => True) (outD (fun v0 : (List Int) => True → K (.exit 0) (⟨[(5, .own 5 none)], [(5, .arr false TInt v0)]⟩ : St)) (fun q0 : Unit => K .ret (⟨[(4, .data TInt (-1 : Int))], []⟩ : St))) m st_
def L100 (columns : (List (TColumn).D)) (e : (List (TPart).D)) : Loops := fun id m st_ K => match id with
  | 0 => LP100_0 columns e m st_ K
  | _ => False
theorem vc100 (columns : (List (TColumn).D)) (e : (List (TPart).D)) (K : AV → Hp → Prop) : awp C100 (L100 columns e) ann100 (bodyOf f100) ⟨argEnv 0 [.data (Ty.sl TColumn) columns, .data (Ty.sl TPart) e], []⟩ (outK tab false f100.results.toList (hasBox []) (resK (.dat TInt) K)) =
  ((Sm (Ty.sl TColumn) columns) ∧ cond ((!(M.columnsOk columns)) == false) (cond (decide ((12 : Int) < (e.length : Int))) (K (.data TInt (-1 : Int)) []) ((∃ m_, (True) ∧ LoopE (t := TPart) (fun (i0 : Int) (v0 : (List Int)) => (⟨[(0, .data (Ty.sl TColumn) columns), (5, .own 5 none), (19, .data (Ty.sl TPart) e), (20, .data TInt (e.length : Int)), (21, .data TInt i0)], [(5, .arr false TInt v0)]⟩ : St)) e (F.impl_ExprKind_l0 columns e) (fun v0 : (List Int) => True) (outD (fun v0 : (List Int) => True → cond (!decide ((v0.length : Int) = (1 : Int))) (K (.data TInt (-1 : Int)) []) ((0 ≤ (0 : Int)) ∧ ((0 : Int) < (v0.length : Int)) ∧ K (.data TInt (nth (t := TInt) v0 (0 : Int))) [])) (fun q0 : Unit => K (.data TInt (-1 : Int)) [])) m_ (⟨[(0, .data (Ty.sl TColumn) columns), (5, .own 5 none), (19, .data (Ty.sl TPart) e), (20, .data TInt (e.length : Int)), (21, .data TInt (0 : Int))], [(5, .arr false TInt [])]⟩ : St)))) (K (.data TInt (-1 : Int)) [])) := by kernel_rfl
theorem lvc100_0 (columns : (List (TColumn).D)) (e : (List (TPart).D))  (i0 : Int) (v0 : (List Int)) (m : Nat) (K : X → St → Prop) : awp C100 (L100 columns e) ann100 (loopAt (bodyOf f100) 0) (⟨[(0, .data (Ty.sl TColumn) columns), (5, .own 5 none), (19, .data (Ty.sl TPart) e), (20, .data TInt (e.length : Int)), (21, .data TInt i0)], [(5, .arr false TInt v0)]⟩ : St) (thenW (fun s' => ∃ m', m' < m ∧ (L100 columns e) 0 m' s' K) (exitN 0 (ann100 (behind 0)) K)) =
  (cond (decide (i0 < (e.length : Int))) ((0 ≤ i0) ∧ (i0 < (e.length : Int)) ∧ (Sm TPart (nth (t := TPart) e i0)) ∧ (Sm TPart (nth (t := TPart) e i0)) ∧ (Sm (Ty.sl TColumn) columns) ∧ cond ((!(M.tells (nth (t := TPart) e i0) columns)) == false) (cond (decide ((v0.length : Int) < (M.takes (nth (t := TPart) e i0)))) (K .ret (⟨[(4, .data TInt (-1 : Int))], []⟩ : St)) ((0 ≤ wrap64 ((v0.length : Int) - (M.takes (nth (t := TPart) e i0)))) ∧ (wrap64 ((v0.length : Int) - (M.takes (nth (t := TPart) e i0))) ≤ (v0.length : Int)) ∧ ((v0.length : Int) ≤ (v0.length : Int)) ∧ ((v0.length : Int) = (v0.length : Int)) ∧ (Sm TPart (nth (t := TPart) e i0)) ∧ (Sm (Ty.sl TColumn) columns) ∧ (Sm (Ty.sl TInt) (cutList v0 (some (wrap64 ((v0.length : Int) - (M.takes (nth (t := TPart) e i0))), (v0.length : Int))))) ∧ (M.tells (nth (t := TPart) e i0) columns = true) ∧ (((cutList v0 (some (wrap64 ((v0.length : Int) - (M.takes (nth (t := TPart) e i0))), (v0.length : Int)))).length : Int) = M.takes (nth (t := TPart) e i0)) ∧ (∀ r_10_8 : Int × Bool, r_10_8 = (M.partKind (nth (t := TPart) e i0) columns (cutList v0 (some (wrap64 ((v0.length : Int) - (M.takes (nth (t := TPart) e i0))), (v0.length : Int))))) → cond (!r_10_8.2) (K .ret (⟨[(4, .data TInt (-1 : Int))], []⟩ : St)) ((0 ≤ (0 : Int)) ∧ ((0 : Int) ≤ wrap64 ((v0.length : Int) - (M.takes (nth (t := TPart) e i0)))) ∧ (wrap64 ((v0.length : Int) - (M.takes (nth (t := TPart) e i0))) ≤ (v0.length : Int)) ∧ (wrap64 ((v0.length : Int) - (M.takes (nth (t := TPart) e i0))) = wrap64 ((v0.length : Int) - (M.takes (nth (t := TPart) e i0)))) ∧ ((0 : Int) = 0) ∧ (((wrap64 ((v0.length : Int) - (M.takes (nth (t := TPart) e i0)))).toNat + [r_10_8.1].length) * 8 ≤ lim) ∧ (∃ m_, m_ < m ∧ (L100 columns e) 0 m_ (⟨[(0, .data (Ty.sl TColumn) columns), (5, .own 5 none), (19, .data (Ty.sl TPart) e), (20, .data TInt (e.length : Int)), (21, .data TInt (wrap64 (i0 + (1 : Int))))], [(5, .arr false TInt (v0.take (wrap64 ((v0.length : Int) - (M.takes (nth (t := TPart) e i0)))).toNat ++ [r_10_8.1]))]⟩ : St) K))))) (K .ret (⟨[(4, .data TInt (-1 : Int))], []⟩ : St))) (K (.exit 0) (⟨[(5, .own 5 none)], [(5, .arr false TInt v0)]⟩ : St))) := by kernel_rfl
theorem con100_ok : ConOk P 100 c100 := by
  refine con_okR (fn := f100) (code := bodyOf f100) (tab_ok tab_check cmp_check) consOk100 mixed func100 rfl rfl fun args hp K h0 => ?_
  obtain ⟨a0, a1, rfl, rfl, h1⟩ := args2_elim h0
  obtain ⟨columns, rfl, h2⟩ := withD_elim h1
  obtain ⟨e, rfl, h3⟩ := withD_elim h2
  obtain ⟨h_columns, h_e, hK⟩ := h3
  have h : ok (F.impl_ExprKind columns e) (fun r => K (.data TInt r) []) := ok_of_eq (F.impl_ExprKind_eq columns e h_columns h_e) hK
  refine ⟨⟨show (2 : Nat) ≤ 67 by decide, show (2 : Nat) ≤ 1000000 by decide⟩, ann100, (L100 columns e), (.dat TInt), (loopsN1 (i0 := 0) (by kernel_rfl) ?_), ?_⟩
  · clear h
    intro m_ s_ K_ h
    obtain ⟨hc0, i0, v0, rfl, hl0, rfl, hv0, h⟩ := (show LP100_0 columns e m_ s_ K_ from h)
    rw [lvc100_0 columns e i0 v0 _ K_]
    exact (loopE_step (t := TPart) hl0 h (fun ht0 h => ⟨hl0, ⟨ht0, ⟨(sm_nth h_e i0), ⟨(sm_nth h_e i0), ⟨h_columns, (ok_cond h (fun b_37 h => (ok_cond h (fun b_38 h => (have h := ok_ret h; h)) (fun b_38 h => ⟨(ok_guard h).1, have h := (ok_guard h).2; ⟨(ok_guard h).1, have g_40 := (ok_guard h).1; have h := (ok_guard h).2; ⟨(Int.le_refl _), ⟨rfl, ⟨(sm_nth h_e i0), ⟨h_columns, ⟨(ok_guard h).1, have h := (ok_guard h).2; ⟨(bnf (bgt b_37)), ⟨(ok_guard h).1, have h := (ok_guard h).2; (fun r_10_8 e_r_10_8 => have h := ok_let h r_10_8 e_r_10_8; (ok_cond h (fun b_43 h => (have h := ok_ret h; h)) (fun b_43 h => ⟨(Int.natCast_nonneg 0), ⟨(ok_guard h).1, have h := (ok_guard h).2; ⟨g_40, ⟨rfl, ⟨rfl, ⟨(ok_guard h).1, have h := (ok_guard h).2; (loopE_next (t := TPart) (fun m hm => (show LP100_0 columns e m _ _ from ⟨hc0, hm⟩)) (v0.take (wrap64 ((v0.length : Int) - (M.takes (nth (t := TPart) e i0)))).toNat ++ [r_10_8.1]) rfl hl0 ht0 (sm_len h_e) trivial (have h := ok_ret h; h))⟩⟩⟩⟩⟩⟩)))⟩⟩⟩⟩⟩⟩⟩⟩⟩))) (fun b_37 h => (have h := ok_ret h; h)))⟩⟩⟩⟩⟩) (fun h => (h trivial)))
  · rw [vc100 columns e K]
    exact ⟨h_columns, (ok_cond h (fun b_1 h => (ok_cond h (fun b_2 h => (have h := ok_ret h; h)) (fun b_2 h => (loopE_start (t := TPart) (fun m hm => ⟨trivial, hm⟩) [] rfl trivial (ok_then h (fun v0 h hv0 => (ok_cond h (fun b_46 h => (have h := ok_ret h; h)) (fun b_46 h => ⟨(Int.natCast_nonneg 0), ⟨(ok_guard h).1, have h := (ok_guard h).2; (have h := ok_ret h; h)⟩⟩))) (fun q0 h => (have h := ok_ret h; h))))))) (fun b_1 h => (have h := ok_ret h; h)))⟩

/-! 55: loop.example/tablehouse/impl.GuardsOk -/
def c55 : Con := ⟨[.dat (Ty.sl TTable), .dat (Ty.sl TGuard)], fun args hp K => args2 (fun a0 a1 => withD (Ty.sl TTable) a0 fun tables => withD (Ty.sl TGuard) a1 fun guards => (Sm (Ty.sl TTable) tables) ∧ (Sm (Ty.sl TGuard) guards) ∧ K (.data Ty.bool (M.guardsOk tables guards)) []) args hp, .plain⟩
def cons55 : Cons := [(66, c66), (99, c99), (100, c100)]
def inl55 : List (Nat × Inl) := []
@[reducible] def C55 : Ctx := ⟨tab, fun t => memN t cmps, cons55, 52, inl55, 0, false⟩
theorem consOk55 : ConsOk P C55 := by
  refine consOk_cons (enter_ok (fn := f66) func66 (by kernel_rfl) rfl) con66_ok ?_
  refine consOk_cons (enter_ok (fn := f99) func99 (by kernel_rfl) rfl) con99_ok ?_
  refine consOk_cons (enter_ok (fn := f100) func100 (by kernel_rfl) rfl) con100_ok ?_
  exact consOk_nil
def ann55 : Nat → List Dir
  | 0 => [.keep [0, 1]]
  | 1 => [.keep [0, 1, 9]]
  | 2 => [.keep [4]]
  | 3 => [.keep [0, 1, 10, 11, 12]]
  | 4 => [.keep [0, 1, 10, 11, 12, 13]]
  | 5 => [.fixRow 6 TGuard, .keep [0, 1, 5, 6, 10, 11, 12]]
  | 6 => [.keep [0, 1, 10, 11, 12, 50]]
  | 7 => [.keep [4]]
  | 8 => [.keep [0, 1, 10, 11, 12]]
  | 9 => [.keep [4]]
  | 100000 => [.keep []]
  | _ => []
@[reducible] def LP55_0 (tables : (List (TTable).D)) (guards : (List (TGuard).D)) (m : Nat) (st_ : St) (K : X → St → Prop) : Prop := (True) ∧ LoopI (fun (i0 : Int) (v0 : Unit) => (⟨[(0, .data (Ty.sl TTable) tables), (1, .data (Ty.sl TGuard) guards), (10, .data (Ty.sl TGuard) guards), (11, .data TInt (guards.length : Int)), (12, .data TInt i0)], []⟩ : St)) (0 : Int) (guards.length : Int) (F.impl_GuardsOk_l0 tables guards) (fun v0 : Unit => True) (outD (fun v0 : Unit => True → K (.exit 0) (⟨[], []⟩ : St)) (fun q0 : Unit => K .ret (⟨[(4, .data Ty.bool false)], []⟩ : St))) m st_
def L55 (tables : (List (TTable).D)) (guards : (List (TGuard).D)) : Loops := fun id m st_ K => match id with
  | 0 => LP55_0 tables guards m st_ K
  | _ => False
theorem vc55 (tables : (List (TTable).D)) (guards : (List (TGuard).D)) (K : AV → Hp → Prop) : awp C55 (L55 tables guards) ann55 (bodyOf f55) ⟨argEnv 0 [.data (Ty.sl TTable) tables, .data (Ty.sl TGuard) guards], []⟩ (outK tab false f55.results.toList (hasBox []) (resK (.dat Ty.bool) K)) =
  ((Sm (Ty.sl TTable) tables) ∧ cond (!(M.tablesOk tables)) (K (.data Ty.bool false) []) ((∃ m_, (True) ∧ LoopI (fun (i0 : Int) (v0 : Unit) => (⟨[(0, .data (Ty.sl TTable) tables), (1, .data (Ty.sl TGuard) guards), (10, .data (Ty.sl TGuard) guards), (11, .data TInt (guards.length : Int)), (12, .data TInt i0)], []⟩ : St)) (0 : Int) (guards.length : Int) (F.impl_GuardsOk_l0 tables guards) (fun v0 : Unit => True) (outD (fun v0 : Unit => True → K (.data Ty.bool true) []) (fun q0 : Unit => K (.data Ty.bool false) [])) m_ (⟨[(0, .data (Ty.sl TTable) tables), (1, .data (Ty.sl TGuard) guards), (10, .data (Ty.sl TGuard) guards), (11, .data TInt (guards.length : Int)), (12, .data TInt (0 : Int))], []⟩ : St)))) := by kernel_rfl
@[reducible] def S55l0_0 (tables : (List (TTable).D)) (guards : (List (TGuard).D))  (i0 : Int) (v0 : Unit) (m : Nat) (K : X → St → Prop) : Prop := (0 ≤ (nth (t := TGuard) guards i0).1) ∧ ((nth (t := TGuard) guards i0).1 < (tables.length : Int)) ∧ (Sm (Ty.sl TColumn) ((nth (t := TTable) tables ((nth (t := TGuard) guards i0).1)).1)) ∧ (Sm (Ty.sl TPart) (((nth (t := TGuard) guards i0).2).1)) ∧ cond (!decide ((M.exprKind ((nth (t := TTable) tables ((nth (t := TGuard) guards i0).1)).1) (((nth (t := TGuard) guards i0).2).1)) = (3 : Int))) (K .ret (⟨[(4, .data Ty.bool false)], []⟩ : St)) ((∃ m_, m_ < m ∧ (L55 tables guards) 0 m_ (⟨[(0, .data (Ty.sl TTable) tables), (1, .data (Ty.sl TGuard) guards), (10, .data (Ty.sl TGuard) guards), (11, .data TInt (guards.length : Int)), (12, .data TInt (wrap64 (i0 + (1 : Int))))], []⟩ : St) K))
theorem lvc55_0 (tables : (List (TTable).D)) (guards : (List (TGuard).D))  (i0 : Int) (v0 : Unit) (m : Nat) (K : X → St → Prop) : awp C55 (L55 tables guards) ann55 (loopAt (bodyOf f55) 0) (⟨[(0, .data (Ty.sl TTable) tables), (1, .data (Ty.sl TGuard) guards), (10, .data (Ty.sl TGuard) guards), (11, .data TInt (guards.length : Int)), (12, .data TInt i0)], []⟩ : St) (thenW (fun s' => ∃ m', m' < m ∧ (L55 tables guards) 0 m' s' K) (exitN 0 (ann55 (behind 0)) K)) =
  (cond (decide (i0 < (guards.length : Int))) ((0 ≤ i0) ∧ (i0 < (guards.length : Int)) ∧ cond ((!(M.inR ((nth (t := TGuard) guards i0).1) (0 : Int) (wrap64 ((tables.length : Int) - (1 : Int))))) == false) (cond ((decide ((0 : Int) < i0)) == true) ((0 ≤ wrap64 (i0 - (1 : Int))) ∧ (wrap64 (i0 - (1 : Int)) < (guards.length : Int)) ∧ cond ((decide ((nth (t := TGuard) guards i0).1 ≤ (nth (t := TGuard) guards (wrap64 (i0 - (1 : Int)))).1)) == false) ((S55l0_0  tables guards i0 v0 m K)) (K .ret (⟨[(4, .data Ty.bool false)], []⟩ : St))) ((S55l0_0  tables guards i0 v0 m K))) (K .ret (⟨[(4, .data Ty.bool false)], []⟩ : St))) (K (.exit 0) (⟨[], []⟩ : St))) := by kernel_rfl
theorem con55_ok : ConOk P 55 c55 := by
  refine con_okR (fn := f55) (code := bodyOf f55) (tab_ok tab_check cmp_check) consOk55 mixed func55 rfl rfl fun args hp K h0 => ?_
  obtain ⟨a0, a1, rfl, rfl, h1⟩ := args2_elim h0
  obtain ⟨tables, rfl, h2⟩ := withD_elim h1
  obtain ⟨guards, rfl, h3⟩ := withD_elim h2
  obtain ⟨h_tables, h_guards, hK⟩ := h3
  have h : ok (F.impl_GuardsOk tables guards) (fun r => K (.data Ty.bool r) []) := ok_of_eq (F.impl_GuardsOk_eq tables guards h_tables h_guards) hK
  refine ⟨⟨show (2 : Nat) ≤ 52 by decide, show (2 : Nat) ≤ 1000000 by decide⟩, ann55, (L55 tables guards), (.dat Ty.bool), (loopsN1 (i0 := 0) (by kernel_rfl) ?_), ?_⟩
  · clear h
    intro m_ s_ K_ h
    obtain ⟨hc0, i0, v0, rfl, hl0, rfl, hv0, h⟩ := (show LP55_0 tables guards m_ s_ K_ from h)
    rw [lvc55_0 tables guards i0 v0 _ K_]
    exact (loopI_step h (fun ht0 h => ⟨hl0, ⟨ht0, (ok_cond h (fun b_22 h => (ok_cond h (fun b_23 h => ⟨(ok_guard h).1, have h := (ok_guard h).2; ⟨(ok_guard h).1, have h := (ok_guard h).2; (ok_cond h (fun b_26 h => ⟨(inR_lo (bnf (bgt b_22))), ⟨(inR_hi (bnf (bgt b_22))), ⟨(sm_nth h_tables ((nth (t := TGuard) guards i0).1)).1, ⟨(sm_nth h_guards i0).2.1, (ok_cond h (fun b_27 h => (have h := ok_ret h; h)) (fun b_27 h => (loopI_next (fun m hm => (show LP55_0 tables guards m _ _ from ⟨hc0, hm⟩)) () rfl hl0 low0 ht0 (sm_len h_guards) trivial (have h := ok_ret h; h))))⟩⟩⟩⟩) (fun b_26 h => (have h := ok_ret h; h)))⟩⟩) (fun b_23 h => ⟨(inR_lo (bnf (bgt b_22))), ⟨(inR_hi (bnf (bgt b_22))), ⟨(sm_nth h_tables ((nth (t := TGuard) guards i0).1)).1, ⟨(sm_nth h_guards i0).2.1, (ok_cond h (fun b_28 h => (have h := ok_ret h; h)) (fun b_28 h => (loopI_next (fun m hm => (show LP55_0 tables guards m _ _ from ⟨hc0, hm⟩)) () rfl hl0 low0 ht0 (sm_len h_guards) trivial (have h := ok_ret h; h))))⟩⟩⟩⟩))) (fun b_22 h => (have h := ok_ret h; h)))⟩⟩) (fun h => (h trivial)))
  · rw [vc55 tables guards K]
    exact ⟨h_tables, (ok_cond h (fun b_1 h => (have h := ok_ret h; h)) (fun b_1 h => (loopI_start (fun m hm => ⟨trivial, hm⟩) (0 : Int) () rfl (Int.natCast_nonneg 0) trivial (ok_then h (fun v0 h hv0 => (have h := ok_ret h; h)) (fun q0 h => (have h := ok_ret h; h))))))⟩

/-! 176: slices.Clip[[]loop.example/tablehouse/impl.Value,loop.example/tablehouse/impl.Value], in place -/
def cons176 : Cons := []
@[reducible] def C176 : Ctx := ⟨tab, fun t => memN t cmps, cons176, 9, [], 400000, true⟩
theorem consOk176 : ConsOk P C176 := by
  exact consOk_nil
def T176 : Inl := inlT C176 (fun _ => []) (bodyOf f176) f176.results.toList
theorem inlOk176 : InlOk P 176 T176 := inl_ok (fn := f176) (code := bodyOf f176) (tab_ok tab_check cmp_check) consOk176 mixed func176 rfl rfl (by kernel_rfl)

/-! 137: loop.example/tablehouse/impl.clone[loop.example/tablehouse/impl.Value] -/
def c137 : Con := ⟨[.dat (Ty.sl TValue)], fun args hp K => args1 (fun a0 => withD (Ty.sl TValue) a0 fun xs => (Sm (Ty.sl TValue) xs) ∧ (∀ r : (List (TValue).D), r = (xs) → K (.clp 0 (r.length : Int)) [(0, .arr false TValue r)])) args hp, .bor⟩
def cons137 : Cons := []
def inl137 : List (Nat × Inl) := [(176, T176)]
@[reducible] def C137 : Ctx := ⟨tab, fun t => memN t cmps, cons137, 9, inl137, 0, true⟩
theorem consOk137 : ConsOk P C137 := by
  refine consOk_inl (enter_ok (fn := f176) func176 (by kernel_rfl) rfl) inlOk176 ?_
  exact consOk_nil
def ann137 : Nat → List Dir
  | 0 => [.keep [0]]
  | 1 => [.keep [0, 5]]
  | 2 => [.clip 2, .keep [2]]
  | 3 => [.keep [2]]
  | _ => []
def L137 (xs : (List (TValue).D)) : Loops := fun id m st_ K => match id with
  | _ => False
theorem vc137 (xs : (List (TValue).D)) (K : AV → Hp → Prop) : awp C137 (L137 xs) ann137 (bodyOf f137) ⟨argEnv 0 [.data (Ty.sl TValue) xs], []⟩ (outK tab true f137.results.toList (hasBox []) (resK .raw K)) =
  (cond (decide ((xs.length : Int) = (0 : Int))) (K (.clp 0 (([] : List TValue.D).length : Int)) [(0, .arr false TValue ([] : List TValue.D))]) ((xs.length * 32 ≤ lim) ∧ (0 ≤ (0 : Int)) ∧ ((0 : Int) ≤ (xs.length : Int)) ∧ ((xs.length : Int) ≤ (xs.length : Int)) ∧ ((xs.length : Int) = (xs.length : Int)) ∧ ((0 : Int) = 0) ∧ K (.clp 0 ((xs.take (xs.length : Int).toNat).length : Int)) [(0, .arr false TValue (xs.take (xs.length : Int).toNat))])) := by kernel_rfl
theorem con137_ok : ConOk P 137 c137 := by
  refine con_okR (fn := f137) (code := bodyOf f137) (tab_ok tab_check cmp_check) consOk137 mixed func137 rfl rfl fun args hp K h0 => ?_
  obtain ⟨a0, rfl, rfl, h1⟩ := args1_elim h0
  obtain ⟨xs, rfl, h2⟩ := withD_elim h1
  obtain ⟨h_xs, hK⟩ := h2
  have h : ok (F.clone_TValue xs) (fun r => K (.clp 0 (r.length : Int)) [(0, .arr false TValue r)]) := ok_of_eq (F.clone_TValue_eq xs h_xs) (hK _ rfl)
  refine ⟨⟨show (1 : Nat) ≤ 9 by decide, show (1 : Nat) ≤ 1000000 by decide⟩, ann137, (L137 xs), .raw, (no_loops (by kernel_rfl)), ?_⟩
  · rw [vc137 xs K]
    exact (ok_cond h (fun b_1 h => (have h := ok_ret h; h)) (fun b_1 h => ⟨(sm_lim h_xs rfl), ⟨(Int.natCast_nonneg 0), ⟨(Int.natCast_nonneg _), ⟨(Int.le_refl _), ⟨rfl, ⟨rfl, (have h := ok_ret h; h)⟩⟩⟩⟩⟩⟩))

/-! 138: slices.Clip[[][]loop.example/tablehouse/impl.Value,[]loop.example/tablehouse/impl.Value], in place -/
def cons138 : Cons := []
@[reducible] def C138 : Ctx := ⟨tab, fun t => memN t cmps, cons138, 9, [], 400000, true⟩
theorem consOk138 : ConsOk P C138 := by
  exact consOk_nil
def T138 : Inl := inlT C138 (fun _ => []) (bodyOf f138) f138.results.toList
theorem inlOk138 : InlOk P 138 T138 := inl_ok (fn := f138) (code := bodyOf f138) (tab_ok tab_check cmp_check) consOk138 mixed func138 rfl rfl (by kernel_rfl)

/-! 103: loop.example/tablehouse/impl.rowsCopy -/
def c103 : Con := ⟨[.dat (Ty.sl (Ty.sl TValue))], fun args hp K => args1 (fun a0 => withD (Ty.sl (Ty.sl TValue)) a0 fun rows => (Sm (Ty.sl (Ty.sl TValue)) rows) ∧ (∀ r : (List (List (TValue).D)), r = (rows) → K (.clp 0 (r.length : Int)) [(0, .arr true (Ty.sl TValue) r)])) args hp, .bor⟩
def cons103 : Cons := [(137, c137)]
def inl103 : List (Nat × Inl) := [(138, T138)]
@[reducible] def C103 : Ctx := ⟨tab, fun t => memN t cmps, cons103, 20, inl103, 0, true⟩
theorem consOk103 : ConsOk P C103 := by
  refine consOk_cons (enter_ok (fn := f137) func137 (by kernel_rfl) rfl) con137_ok ?_
  refine consOk_inl (enter_ok (fn := f138) func138 (by kernel_rfl) rfl) inlOk138 ?_
  exact consOk_nil
def ann103 : Nat → List Dir
  | 0 => [.keep [0]]
  | 1 => [.keep [0, 3]]
  | 2 => [.keep [3, 6, 7, 8]]
  | 3 => [.keep [3, 6, 7, 8, 9]]
  | 4 => [.keep [3, 5, 6, 7, 8]]
  | 5 => [.keep [3, 6, 7, 8]]
  | 6 => [.keep [3, 6, 7, 8]]
  | 7 => [.keep [2]]
  | 100000 => [.keep [3]]
  | _ => []
@[reducible] def LP103_0 (rows : (List (List (TValue).D))) (m : Nat) (st_ : St) (K : X → St → Prop) : Prop := (True) ∧ LoopE (t := (Ty.sl TValue)) (fun (i0 : Int) (v0 : (List (List (TValue).D))) => (⟨[(3, .own 3 none), (6, .data (Ty.sl (Ty.sl TValue)) rows), (7, .data TInt (rows.length : Int)), (8, .data TInt i0)], [(3, .arr true (Ty.sl TValue) v0)]⟩ : St)) rows (F.impl_rowsCopy_l0 rows) (fun v0 : (List (List (TValue).D)) => True) (outD (fun v0 : (List (List (TValue).D)) => True → K (.exit 0) (⟨[(3, .own 3 none)], [(3, .arr true (Ty.sl TValue) v0)]⟩ : St)) (fun _ => False)) m st_
def L103 (rows : (List (List (TValue).D))) : Loops := fun id m st_ K => match id with
  | 0 => LP103_0 rows m st_ K
  | _ => False
theorem vc103 (rows : (List (List (TValue).D))) (K : AV → Hp → Prop) : awp C103 (L103 rows) ann103 (bodyOf f103) ⟨argEnv 0 [.data (Ty.sl (Ty.sl TValue)) rows], []⟩ (outK tab true f103.results.toList (hasBox []) (resK .raw K)) =
  ((∃ m_, (True) ∧ LoopE (t := (Ty.sl TValue)) (fun (i0 : Int) (v0 : (List (List (TValue).D))) => (⟨[(3, .own 3 none), (6, .data (Ty.sl (Ty.sl TValue)) rows), (7, .data TInt (rows.length : Int)), (8, .data TInt i0)], [(3, .arr true (Ty.sl TValue) v0)]⟩ : St)) rows (F.impl_rowsCopy_l0 rows) (fun v0 : (List (List (TValue).D)) => True) (outD (fun v0 : (List (List (TValue).D)) => True → (0 ≤ (0 : Int)) ∧ ((0 : Int) ≤ (v0.length : Int)) ∧ ((v0.length : Int) ≤ (v0.length : Int)) ∧ ((v0.length : Int) = (v0.length : Int)) ∧ ((0 : Int) = 0) ∧ K (.clp 0 ((v0.take (v0.length : Int).toNat).length : Int)) [(0, .arr true (Ty.sl TValue) (v0.take (v0.length : Int).toNat))]) (fun _ => False)) m_ (⟨[(3, .own 3 none), (6, .data (Ty.sl (Ty.sl TValue)) rows), (7, .data TInt (rows.length : Int)), (8, .data TInt (0 : Int))], [(3, .arr true (Ty.sl TValue) [])]⟩ : St))) := by kernel_rfl
theorem lvc103_0 (rows : (List (List (TValue).D)))  (i0 : Int) (v0 : (List (List (TValue).D))) (m : Nat) (K : X → St → Prop) : awp C103 (L103 rows) ann103 (loopAt (bodyOf f103) 0) (⟨[(3, .own 3 none), (6, .data (Ty.sl (Ty.sl TValue)) rows), (7, .data TInt (rows.length : Int)), (8, .data TInt i0)], [(3, .arr true (Ty.sl TValue) v0)]⟩ : St) (thenW (fun s' => ∃ m', m' < m ∧ (L103 rows) 0 m' s' K) (exitN 0 (ann103 (behind 0)) K)) =
  (cond (decide (i0 < (rows.length : Int))) ((0 ≤ i0) ∧ (i0 < (rows.length : Int)) ∧ (Sm (Ty.sl TValue) (nth (t := (Ty.sl TValue)) rows i0)) ∧ (∀ r_5_2 : (List (TValue).D), r_5_2 = ((nth (t := (Ty.sl TValue)) rows i0)) → ((v0.length + [(cutList r_5_2 (some ((0 : Int), (r_5_2.length : Int))))].length) * 24 ≤ lim) ∧ (∃ m_, m_ < m ∧ (L103 rows) 0 m_ (⟨[(3, .own 3 none), (6, .data (Ty.sl (Ty.sl TValue)) rows), (7, .data TInt (rows.length : Int)), (8, .data TInt (wrap64 (i0 + (1 : Int))))], [(3, .arr true (Ty.sl TValue) (v0 ++ [(cutList r_5_2 (some ((0 : Int), (r_5_2.length : Int))))]))]⟩ : St) K))) (K (.exit 0) (⟨[(3, .own 3 none)], [(3, .arr true (Ty.sl TValue) v0)]⟩ : St))) := by kernel_rfl
theorem con103_ok : ConOk P 103 c103 := by
  refine con_okR (fn := f103) (code := bodyOf f103) (tab_ok tab_check cmp_check) consOk103 mixed func103 rfl rfl fun args hp K h0 => ?_
  obtain ⟨a0, rfl, rfl, h1⟩ := args1_elim h0
  obtain ⟨rows, rfl, h2⟩ := withD_elim h1
  obtain ⟨h_rows, hK⟩ := h2
  have h : ok (F.impl_rowsCopy rows) (fun r => K (.clp 0 (r.length : Int)) [(0, .arr true (Ty.sl TValue) r)]) := ok_of_eq (F.impl_rowsCopy_eq rows h_rows) (hK _ rfl)
  refine ⟨⟨show (1 : Nat) ≤ 20 by decide, show (1 : Nat) ≤ 1000000 by decide⟩, ann103, (L103 rows), .raw, (loopsN1 (i0 := 0) (by kernel_rfl) ?_), ?_⟩
  · clear h
    intro m_ s_ K_ h
    obtain ⟨hc0, i0, v0, rfl, hl0, rfl, hv0, h⟩ := (show LP103_0 rows m_ s_ K_ from h)
    rw [lvc103_0 rows i0 v0 _ K_]
    exact (loopE_step (t := (Ty.sl TValue)) hl0 h (fun ht0 h => ⟨hl0, ⟨ht0, ⟨(sm_nth h_rows i0), (fun r_5_2 e_r_5_2 => have h := ok_let h r_5_2 e_r_5_2; ⟨(ok_guard h).1, have h := (ok_guard h).2; (loopE_next (t := (Ty.sl TValue)) (fun m hm => (show LP103_0 rows m _ _ from ⟨hc0, hm⟩)) (v0 ++ [(cutList r_5_2 (some ((0 : Int), (r_5_2.length : Int))))]) rfl hl0 ht0 (sm_len h_rows) trivial (have h := ok_ret h; h))⟩)⟩⟩⟩) (fun h => (h trivial)))
  · rw [vc103 rows K]
    exact (loopE_start (t := (Ty.sl TValue)) (fun m hm => ⟨trivial, hm⟩) [] rfl trivial (ok_then h (fun v0 h hv0 => ⟨(Int.natCast_nonneg 0), ⟨(Int.natCast_nonneg _), ⟨(Int.le_refl _), ⟨rfl, ⟨rfl, (have h := ok_ret h; h)⟩⟩⟩⟩⟩) (fun _ h => h.elim)))

/-! 175: slices.Clip[[]loop.example/tablehouse/impl.Column,loop.example/tablehouse/impl.Column], in place -/
def cons175 : Cons := []
@[reducible] def C175 : Ctx := ⟨tab, fun t => memN t cmps, cons175, 9, [], 400000, true⟩
theorem consOk175 : ConsOk P C175 := by
  exact consOk_nil
def T175 : Inl := inlT C175 (fun _ => []) (bodyOf f175) f175.results.toList
theorem inlOk175 : InlOk P 175 T175 := inl_ok (fn := f175) (code := bodyOf f175) (tab_ok tab_check cmp_check) consOk175 mixed func175 rfl rfl (by kernel_rfl)

/-! 136: loop.example/tablehouse/impl.clone[loop.example/tablehouse/impl.Column] -/
def c136 : Con := ⟨[.dat (Ty.sl TColumn)], fun args hp K => args1 (fun a0 => withD (Ty.sl TColumn) a0 fun xs => (Sm (Ty.sl TColumn) xs) ∧ (∀ r : (List (TColumn).D), r = (xs) → K (.clp 0 (r.length : Int)) [(0, .arr false TColumn r)])) args hp, .bor⟩
def cons136 : Cons := []
def inl136 : List (Nat × Inl) := [(175, T175)]
@[reducible] def C136 : Ctx := ⟨tab, fun t => memN t cmps, cons136, 9, inl136, 0, true⟩
theorem consOk136 : ConsOk P C136 := by
  refine consOk_inl (enter_ok (fn := f175) func175 (by kernel_rfl) rfl) inlOk175 ?_
  exact consOk_nil
def ann136 : Nat → List Dir
  | 0 => [.keep [0]]
  | 1 => [.keep [0, 5]]
  | 2 => [.clip 2, .keep [2]]
  | 3 => [.keep [2]]
  | _ => []
def L136 (xs : (List (TColumn).D)) : Loops := fun id m st_ K => match id with
  | _ => False
theorem vc136 (xs : (List (TColumn).D)) (K : AV → Hp → Prop) : awp C136 (L136 xs) ann136 (bodyOf f136) ⟨argEnv 0 [.data (Ty.sl TColumn) xs], []⟩ (outK tab true f136.results.toList (hasBox []) (resK .raw K)) =
  (cond (decide ((xs.length : Int) = (0 : Int))) (K (.clp 0 (([] : List TColumn.D).length : Int)) [(0, .arr false TColumn ([] : List TColumn.D))]) ((xs.length * 16 ≤ lim) ∧ (0 ≤ (0 : Int)) ∧ ((0 : Int) ≤ (xs.length : Int)) ∧ ((xs.length : Int) ≤ (xs.length : Int)) ∧ ((xs.length : Int) = (xs.length : Int)) ∧ ((0 : Int) = 0) ∧ K (.clp 0 ((xs.take (xs.length : Int).toNat).length : Int)) [(0, .arr false TColumn (xs.take (xs.length : Int).toNat))])) := by kernel_rfl
theorem con136_ok : ConOk P 136 c136 := by
  refine con_okR (fn := f136) (code := bodyOf f136) (tab_ok tab_check cmp_check) consOk136 mixed func136 rfl rfl fun args hp K h0 => ?_
  obtain ⟨a0, rfl, rfl, h1⟩ := args1_elim h0
  obtain ⟨xs, rfl, h2⟩ := withD_elim h1
  obtain ⟨h_xs, hK⟩ := h2
  have h : ok (F.clone_TColumn xs) (fun r => K (.clp 0 (r.length : Int)) [(0, .arr false TColumn r)]) := ok_of_eq (F.clone_TColumn_eq xs h_xs) (hK _ rfl)
  refine ⟨⟨show (1 : Nat) ≤ 9 by decide, show (1 : Nat) ≤ 1000000 by decide⟩, ann136, (L136 xs), .raw, (no_loops (by kernel_rfl)), ?_⟩
  · rw [vc136 xs K]
    exact (ok_cond h (fun b_1 h => (have h := ok_ret h; h)) (fun b_1 h => ⟨(sm_lim h_xs rfl), ⟨(Int.natCast_nonneg 0), ⟨(Int.natCast_nonneg _), ⟨(Int.le_refl _), ⟨rfl, ⟨rfl, (have h := ok_ret h; h)⟩⟩⟩⟩⟩⟩))

/-! 101: loop.example/tablehouse/impl.tableCopy, in place -/
def cons101 : Cons := [(103, c103), (136, c136)]
@[reducible] def C101 : Ctx := ⟨tab, fun t => memN t cmps, cons101, 10, [], 200000, true⟩
theorem consOk101 : ConsOk P C101 := by
  refine consOk_cons (enter_ok (fn := f103) func103 (by kernel_rfl) rfl) con103_ok ?_
  refine consOk_cons (enter_ok (fn := f136) func136 (by kernel_rfl) rfl) con136_ok ?_
  exact consOk_nil
def T101 : Inl := inlT C101 (fun _ => []) (bodyOf f101) f101.results.toList
theorem inlOk101 : InlOk P 101 T101 := inl_ok (fn := f101) (code := bodyOf f101) (tab_ok tab_check cmp_check) consOk101 mixed func101 rfl rfl (by kernel_rfl)

/-! 102: slices.Clip[[]loop.example/tablehouse/impl.Table,loop.example/tablehouse/impl.Table], in place -/
def cons102 : Cons := []
@[reducible] def C102 : Ctx := ⟨tab, fun t => memN t cmps, cons102, 9, [], 400000, true⟩
theorem consOk102 : ConsOk P C102 := by
  exact consOk_nil
def T102 : Inl := inlT C102 (fun _ => []) (bodyOf f102) f102.results.toList
theorem inlOk102 : InlOk P 102 T102 := inl_ok (fn := f102) (code := bodyOf f102) (tab_ok tab_check cmp_check) consOk102 mixed func102 rfl rfl (by kernel_rfl)

/-! 56: loop.example/tablehouse/impl.tablesCopy -/
def c56 : Con := ⟨[.dat (Ty.sl TTable)], fun args hp K => args1 (fun a0 => withD (Ty.sl TTable) a0 fun tables => (Sm (Ty.sl TTable) tables) ∧ (∀ r : (List (TTable).D), r = (tables) → K (.clp 0 (r.length : Int)) [(0, .arr true TTable r)])) args hp, .bor⟩
def cons56 : Cons := []
def inl56 : List (Nat × Inl) := [(101, T101), (102, T102)]
@[reducible] def C56 : Ctx := ⟨tab, fun t => memN t cmps, cons56, 20, inl56, 0, true⟩
theorem consOk56 : ConsOk P C56 := by
  refine consOk_inl (enter_ok (fn := f101) func101 (by kernel_rfl) rfl) inlOk101 ?_
  refine consOk_inl (enter_ok (fn := f102) func102 (by kernel_rfl) rfl) inlOk102 ?_
  exact consOk_nil
def ann56 : Nat → List Dir
  | 0 => [.keep [0]]
  | 1 => [.keep [0, 3]]
  | 2 => [.keep [3, 6, 7, 8]]
  | 3 => [.keep [3, 6, 7, 8, 9]]
  | 4 => [.fixRow 5 TTable, .keep [3, 5, 6, 7, 8]]
  | 5 => [.keep [3, 6, 7, 8]]
  | 6 => [.keep [3, 6, 7, 8]]
  | 7 => [.keep [2]]
  | 100000 => [.keep [3]]
  | _ => []
@[reducible] def LP56_0 (tables : (List (TTable).D)) (m : Nat) (st_ : St) (K : X → St → Prop) : Prop := (True) ∧ LoopE (t := TTable) (fun (i0 : Int) (v0 : (List (TTable).D)) => (⟨[(3, .own 3 none), (6, .data (Ty.sl TTable) tables), (7, .data TInt (tables.length : Int)), (8, .data TInt i0)], [(3, .arr true TTable v0)]⟩ : St)) tables (F.impl_tablesCopy_l0 tables) (fun v0 : (List (TTable).D) => True) (outD (fun v0 : (List (TTable).D) => True → K (.exit 0) (⟨[(3, .own 3 none)], [(3, .arr true TTable v0)]⟩ : St)) (fun _ => False)) m st_
def L56 (tables : (List (TTable).D)) : Loops := fun id m st_ K => match id with
  | 0 => LP56_0 tables m st_ K
  | _ => False
theorem vc56 (tables : (List (TTable).D)) (K : AV → Hp → Prop) : awp C56 (L56 tables) ann56 (bodyOf f56) ⟨argEnv 0 [.data (Ty.sl TTable) tables], []⟩ (outK tab true f56.results.toList (hasBox []) (resK .raw K)) =
  ((∃ m_, (True) ∧ LoopE (t := TTable) (fun (i0 : Int) (v0 : (List (TTable).D)) => (⟨[(3, .own 3 none), (6, .data (Ty.sl TTable) tables), (7, .data TInt (tables.length : Int)), (8, .data TInt i0)], [(3, .arr true TTable v0)]⟩ : St)) tables (F.impl_tablesCopy_l0 tables) (fun v0 : (List (TTable).D) => True) (outD (fun v0 : (List (TTable).D) => True → (0 ≤ (0 : Int)) ∧ ((0 : Int) ≤ (v0.length : Int)) ∧ ((v0.length : Int) ≤ (v0.length : Int)) ∧ ((v0.length : Int) = (v0.length : Int)) ∧ ((0 : Int) = 0) ∧ K (.clp 0 ((v0.take (v0.length : Int).toNat).length : Int)) [(0, .arr true TTable (v0.take (v0.length : Int).toNat))]) (fun _ => False)) m_ (⟨[(3, .own 3 none), (6, .data (Ty.sl TTable) tables), (7, .data TInt (tables.length : Int)), (8, .data TInt (0 : Int))], [(3, .arr true TTable [])]⟩ : St))) := by kernel_rfl
theorem lvc56_0 (tables : (List (TTable).D))  (i0 : Int) (v0 : (List (TTable).D)) (m : Nat) (K : X → St → Prop) : awp C56 (L56 tables) ann56 (loopAt (bodyOf f56) 0) (⟨[(3, .own 3 none), (6, .data (Ty.sl TTable) tables), (7, .data TInt (tables.length : Int)), (8, .data TInt i0)], [(3, .arr true TTable v0)]⟩ : St) (thenW (fun s' => ∃ m', m' < m ∧ (L56 tables) 0 m' s' K) (exitN 0 (ann56 (behind 0)) K)) =
  (cond (decide (i0 < (tables.length : Int))) ((0 ≤ i0) ∧ (i0 < (tables.length : Int)) ∧ (Sm (Ty.sl TColumn) ((nth (t := TTable) tables i0).1)) ∧ (∀ r_1001_2 : (List (TColumn).D), r_1001_2 = (((nth (t := TTable) tables i0).1)) → (Sm (Ty.sl (Ty.sl TValue)) (((nth (t := TTable) tables i0).2).1)) ∧ (∀ r_1001_5 : (List (List (TValue).D)), r_1001_5 = ((((nth (t := TTable) tables i0).2).1)) → ((v0.length + [((cutList r_1001_2 (some ((0 : Int), (r_1001_2.length : Int)))), ((cutList r_1001_5 (some ((0 : Int), (r_1001_5.length : Int)))), ()))].length) * 48 ≤ lim) ∧ (∃ m_, m_ < m ∧ (L56 tables) 0 m_ (⟨[(3, .own 3 none), (6, .data (Ty.sl TTable) tables), (7, .data TInt (tables.length : Int)), (8, .data TInt (wrap64 (i0 + (1 : Int))))], [(3, .arr true TTable (v0 ++ [((cutList r_1001_2 (some ((0 : Int), (r_1001_2.length : Int)))), ((cutList r_1001_5 (some ((0 : Int), (r_1001_5.length : Int)))), ()))]))]⟩ : St) K)))) (K (.exit 0) (⟨[(3, .own 3 none)], [(3, .arr true TTable v0)]⟩ : St))) := by kernel_rfl
theorem con56_ok : ConOk P 56 c56 := by
  refine con_okR (fn := f56) (code := bodyOf f56) (tab_ok tab_check cmp_check) consOk56 mixed func56 rfl rfl fun args hp K h0 => ?_
  obtain ⟨a0, rfl, rfl, h1⟩ := args1_elim h0
  obtain ⟨tables, rfl, h2⟩ := withD_elim h1
  obtain ⟨h_tables, hK⟩ := h2
  have h : ok (F.impl_tablesCopy tables) (fun r => K (.clp 0 (r.length : Int)) [(0, .arr true TTable r)]) := ok_of_eq (F.impl_tablesCopy_eq tables h_tables) (hK _ rfl)
  refine ⟨⟨show (1 : Nat) ≤ 20 by decide, show (1 : Nat) ≤ 1000000 by decide⟩, ann56, (L56 tables), .raw, (loopsN1 (i0 := 0) (by kernel_rfl) ?_), ?_⟩
  · clear h
    intro m_ s_ K_ h
    obtain ⟨hc0, i0, v0, rfl, hl0, rfl, hv0, h⟩ := (show LP56_0 tables m_ s_ K_ from h)
    rw [lvc56_0 tables i0 v0 _ K_]
    exact (loopE_step (t := TTable) hl0 h (fun ht0 h => ⟨hl0, ⟨ht0, ⟨(sm_nth h_tables i0).1, (fun r_1001_2 e_r_1001_2 => have h := ok_let h r_1001_2 e_r_1001_2; ⟨(sm_nth h_tables i0).2.1, (fun r_1001_5 e_r_1001_5 => have h := ok_let h r_1001_5 e_r_1001_5; ⟨(ok_guard h).1, have h := (ok_guard h).2; (loopE_next (t := TTable) (fun m hm => (show LP56_0 tables m _ _ from ⟨hc0, hm⟩)) (v0 ++ [((cutList r_1001_2 (some ((0 : Int), (r_1001_2.length : Int)))), ((cutList r_1001_5 (some ((0 : Int), (r_1001_5.length : Int)))), ()))]) rfl hl0 ht0 (sm_len h_tables) trivial (have h := ok_ret h; h))⟩)⟩)⟩⟩⟩) (fun h => (h trivial)))
  · rw [vc56 tables K]
    exact (loopE_start (t := TTable) (fun m hm => ⟨trivial, hm⟩) [] rfl trivial (ok_then h (fun v0 h hv0 => ⟨(Int.natCast_nonneg 0), ⟨(Int.natCast_nonneg _), ⟨(Int.le_refl _), ⟨rfl, ⟨rfl, (have h := ok_ret h; h)⟩⟩⟩⟩⟩) (fun _ h => h.elim)))

/-! 105: loop.example/tablehouse/impl.ValueOf -/
def c105 : Con := ⟨[.dat TInt], fun args hp K => args1 (fun a0 => withD TInt a0 fun truth => (∀ r : (TValue).D, r = (M.valueOf truth) → K (.data TValue r) [])) args hp, .plain⟩
def cons105 : Cons := [(66, c66)]
def inl105 : List (Nat × Inl) := []
@[reducible] def C105 : Ctx := ⟨tab, fun t => memN t cmps, cons105, 9, inl105, 0, false⟩
theorem consOk105 : ConsOk P C105 := by
  refine consOk_cons (enter_ok (fn := f66) func66 (by kernel_rfl) rfl) con66_ok ?_
  exact consOk_nil
def ann105 : Nat → List Dir
  | 0 => [.keep [0, 2]]
  | 1 => [.keep [0, 2, 5]]
  | 2 => [.keep [2]]
  | 3 => [.keep [2]]
  | _ => []
def L105 (truth : Int) : Loops := fun id m st_ K => match id with
  | _ => False
theorem vc105 (truth : Int) (K : AV → Hp → Prop) : awp C105 (L105 truth) ann105 (bodyOf f105) ⟨argEnv 0 [.data TInt truth], []⟩ (outK tab false f105.results.toList (hasBox []) (resK (.dat TValue) K)) =
  (cond (!(M.inR truth (0 : Int) (1 : Int))) (K (.data TValue ((0 : Int), ((0 : Int), ((⟨#[]⟩ : ByteArray), ())))) []) (K (.data TValue ((3 : Int), (truth, ((⟨#[]⟩ : ByteArray), ())))) [])) := by kernel_rfl
theorem con105_ok : ConOk P 105 c105 := by
  refine con_okR (fn := f105) (code := bodyOf f105) (tab_ok tab_check cmp_check) consOk105 mixed func105 rfl rfl fun args hp K h0 => ?_
  obtain ⟨a0, rfl, rfl, h1⟩ := args1_elim h0
  obtain ⟨truth, rfl, h2⟩ := withD_elim h1
  have hK := h2
  have h : ok (F.impl_ValueOf truth) (fun r => K (.data TValue r) []) := ok_of_eq (F.impl_ValueOf_eq truth) (hK _ rfl)
  refine ⟨⟨show (1 : Nat) ≤ 9 by decide, show (1 : Nat) ≤ 1000000 by decide⟩, ann105, (L105 truth), (.dat TValue), (no_loops (by kernel_rfl)), ?_⟩
  · rw [vc105 truth K]
    exact (ok_cond h (fun b_1 h => (have h := ok_ret h; h)) (fun b_1 h => (have h := ok_ret h; h)))

/-! 182: loop.example/tablehouse/impl.truthIf -/
def c182 : Con := ⟨[.dat Ty.bool], fun args hp K => args1 (fun a0 => withD Ty.bool a0 fun b => K (.data TInt (M.bool b)) []) args hp, .plain⟩
def cons182 : Cons := []
def inl182 : List (Nat × Inl) := []
@[reducible] def C182 : Ctx := ⟨tab, fun t => memN t cmps, cons182, 4, inl182, 0, false⟩
theorem consOk182 : ConsOk P C182 := by
  exact consOk_nil
def ann182 : Nat → List Dir
  | 0 => [.keep [0]]
  | 1 => [.keep [3]]
  | 2 => [.keep [2]]
  | 3 => [.keep [2]]
  | _ => []
def L182 (b : Bool) : Loops := fun id m st_ K => match id with
  | _ => False
theorem vc182 (b : Bool) (K : AV → Hp → Prop) : awp C182 (L182 b) ann182 (bodyOf f182) ⟨argEnv 0 [.data Ty.bool b], []⟩ (outK tab false f182.results.toList (hasBox []) (resK (.dat TInt) K)) =
  (cond b (K (.data TInt (1 : Int)) []) (K (.data TInt (0 : Int)) [])) := by kernel_rfl
theorem con182_ok : ConOk P 182 c182 := by
  refine con_okR (fn := f182) (code := bodyOf f182) (tab_ok tab_check cmp_check) consOk182 mixed func182 rfl rfl fun args hp K h0 => ?_
  obtain ⟨a0, rfl, rfl, h1⟩ := args1_elim h0
  obtain ⟨b, rfl, h2⟩ := withD_elim h1
  have hK := h2
  have h : ok (F.impl_truthIf b) (fun r => K (.data TInt r) []) := ok_of_eq (F.impl_truthIf_eq b) hK
  refine ⟨⟨show (1 : Nat) ≤ 4 by decide, show (1 : Nat) ≤ 1000000 by decide⟩, ann182, (L182 b), (.dat TInt), (no_loops (by kernel_rfl)), ?_⟩
  · rw [vc182 b K]
    exact (ok_cond h (fun b_1 h => (have h := ok_ret h; h)) (fun b_1 h => (have h := ok_ret h; h)))

/-! 211: cmp.Or[int] -/
def c211 : Con := ⟨[.dat (Ty.sl TInt)], fun args hp K => args1 (fun a0 => withD (Ty.sl TInt) a0 fun vals => (Sm (Ty.sl TInt) vals) ∧ K (.data TInt (M.orI vals)) []) args hp, .plain⟩
def cons211 : Cons := []
def inl211 : List (Nat × Inl) := []
@[reducible] def C211 : Ctx := ⟨tab, fun t => memN t cmps, cons211, 18, inl211, 0, false⟩
theorem consOk211 : ConsOk P C211 := by
  exact consOk_nil
def ann211 : Nat → List Dir
  | 0 => [.keep [0]]
  | 1 => [.keep [0, 3]]
  | 2 => [.keep [3, 6, 7, 8]]
  | 3 => [.keep [3, 6, 7, 8, 9]]
  | 4 => [.keep [3, 5, 6, 7, 8]]
  | 5 => [.keep [3, 5, 6, 7, 8, 14]]
  | 6 => [.keep [2]]
  | 7 => [.keep [3, 6, 7, 8]]
  | 8 => [.keep [2]]
  | 100000 => [.keep [3]]
  | _ => []
@[reducible] def LP211_0 (vals : (List Int)) (m : Nat) (st_ : St) (K : X → St → Prop) : Prop := (True) ∧ LoopE (t := TInt) (fun (i0 : Int) (v0 : Unit) => (⟨[(3, .data TInt (0 : Int)), (6, .data (Ty.sl TInt) vals), (7, .data TInt (vals.length : Int)), (8, .data TInt i0)], []⟩ : St)) vals (F.cmp_Or_int_l0 vals) (fun v0 : Unit => True) (outD (fun v0 : Unit => True → K (.exit 0) (⟨[(3, .data TInt (0 : Int))], []⟩ : St)) (fun q0 : Int => K .ret (⟨[(2, .data TInt q0)], []⟩ : St))) m st_
def L211 (vals : (List Int)) : Loops := fun id m st_ K => match id with
  | 0 => LP211_0 vals m st_ K
  | _ => False
theorem vc211 (vals : (List Int)) (K : AV → Hp → Prop) : awp C211 (L211 vals) ann211 (bodyOf f211) ⟨argEnv 0 [.data (Ty.sl TInt) vals], []⟩ (outK tab false f211.results.toList (hasBox []) (resK (.dat TInt) K)) =
  ((∃ m_, (True) ∧ LoopE (t := TInt) (fun (i0 : Int) (v0 : Unit) => (⟨[(3, .data TInt (0 : Int)), (6, .data (Ty.sl TInt) vals), (7, .data TInt (vals.length : Int)), (8, .data TInt i0)], []⟩ : St)) vals (F.cmp_Or_int_l0 vals) (fun v0 : Unit => True) (outD (fun v0 : Unit => True → K (.data TInt (0 : Int)) []) (fun q0 : Int => K (.data TInt q0) [])) m_ (⟨[(3, .data TInt (0 : Int)), (6, .data (Ty.sl TInt) vals), (7, .data TInt (vals.length : Int)), (8, .data TInt (0 : Int))], []⟩ : St))) := by kernel_rfl
theorem lvc211_0 (vals : (List Int))  (i0 : Int) (v0 : Unit) (m : Nat) (K : X → St → Prop) : awp C211 (L211 vals) ann211 (loopAt (bodyOf f211) 0) (⟨[(3, .data TInt (0 : Int)), (6, .data (Ty.sl TInt) vals), (7, .data TInt (vals.length : Int)), (8, .data TInt i0)], []⟩ : St) (thenW (fun s' => ∃ m', m' < m ∧ (L211 vals) 0 m' s' K) (exitN 0 (ann211 (behind 0)) K)) =
  (cond (decide (i0 < (vals.length : Int))) ((0 ≤ i0) ∧ (i0 < (vals.length : Int)) ∧ cond (!decide ((nth (t := TInt) vals i0) = (0 : Int))) (K .ret (⟨[(2, .data TInt (nth (t := TInt) vals i0))], []⟩ : St)) ((∃ m_, m_ < m ∧ (L211 vals) 0 m_ (⟨[(3, .data TInt (0 : Int)), (6, .data (Ty.sl TInt) vals), (7, .data TInt (vals.length : Int)), (8, .data TInt (wrap64 (i0 + (1 : Int))))], []⟩ : St) K))) (K (.exit 0) (⟨[(3, .data TInt (0 : Int))], []⟩ : St))) := by kernel_rfl
theorem con211_ok : ConOk P 211 c211 := by
  refine con_okR (fn := f211) (code := bodyOf f211) (tab_ok tab_check cmp_check) consOk211 mixed func211 rfl rfl fun args hp K h0 => ?_
  obtain ⟨a0, rfl, rfl, h1⟩ := args1_elim h0
  obtain ⟨vals, rfl, h2⟩ := withD_elim h1
  obtain ⟨h_vals, hK⟩ := h2
  have h : ok (F.cmp_Or_int vals) (fun r => K (.data TInt r) []) := ok_of_eq (F.cmp_Or_int_eq vals h_vals) hK
  refine ⟨⟨show (1 : Nat) ≤ 18 by decide, show (1 : Nat) ≤ 1000000 by decide⟩, ann211, (L211 vals), (.dat TInt), (loopsN1 (i0 := 0) (by kernel_rfl) ?_), ?_⟩
  · clear h
    intro m_ s_ K_ h
    obtain ⟨hc0, i0, v0, rfl, hl0, rfl, hv0, h⟩ := (show LP211_0 vals m_ s_ K_ from h)
    rw [lvc211_0 vals i0 v0 _ K_]
    exact (loopE_step (t := TInt) hl0 h (fun ht0 h => ⟨hl0, ⟨ht0, (ok_cond h (fun b_9 h => (have h := ok_ret h; h)) (fun b_9 h => (loopE_next (t := TInt) (fun m hm => (show LP211_0 vals m _ _ from ⟨hc0, hm⟩)) () rfl hl0 ht0 (sm_len h_vals) trivial (have h := ok_ret h; h))))⟩⟩) (fun h => (h trivial)))
  · rw [vc211 vals K]
    exact (loopE_start (t := TInt) (fun m hm => ⟨trivial, hm⟩) () rfl trivial (ok_then h (fun v0 h hv0 => (have h := ok_ret h; h)) (fun q0 h => (have h := ok_ret h; h))))

/-! 217: cmp.isNaN[int] -/
def c217 : Con := ⟨[.dat TInt], fun args hp K => args1 (fun a0 => withD TInt a0 fun x => K (.data Ty.bool (false)) []) args hp, .plain⟩
def cons217 : Cons := []
def inl217 : List (Nat × Inl) := []
@[reducible] def C217 : Ctx := ⟨tab, fun t => memN t cmps, cons217, 6, inl217, 0, false⟩
theorem consOk217 : ConsOk P C217 := by
  exact consOk_nil
def ann217 : Nat → List Dir
  | 0 => [.keep [0]]
  | 1 => [.keep [2]]
  | _ => []
def L217 (x : Int) : Loops := fun id m st_ K => match id with
  | _ => False
theorem vc217 (x : Int) (K : AV → Hp → Prop) : awp C217 (L217 x) ann217 (bodyOf f217) ⟨argEnv 0 [.data TInt x], []⟩ (outK tab false f217.results.toList (hasBox []) (resK (.dat Ty.bool) K)) =
  (K (.data Ty.bool (!decide (x = x))) []) := by kernel_rfl
theorem con217_ok : ConOk P 217 c217 := by
  refine con_okR (fn := f217) (code := bodyOf f217) (tab_ok tab_check cmp_check) consOk217 mixed func217 rfl rfl fun args hp K h0 => ?_
  obtain ⟨a0, rfl, rfl, h1⟩ := args1_elim h0
  obtain ⟨x, rfl, h2⟩ := withD_elim h1
  have hK := h2
  have h : ok (F.cmp_isNaN_int x) (fun r => K (.data Ty.bool r) []) := ok_of_eq (F.cmp_isNaN_int_eq x) hK
  refine ⟨⟨show (1 : Nat) ≤ 6 by decide, show (1 : Nat) ≤ 1000000 by decide⟩, ann217, (L217 x), (.dat Ty.bool), (no_loops (by kernel_rfl)), ?_⟩
  · rw [vc217 x K]
    exact (have h := ok_ret h; h)

/-! 212: cmp.Compare[int] -/
def c212 : Con := ⟨[.dat TInt, .dat TInt], fun args hp K => args2 (fun a0 a1 => withD TInt a0 fun x => withD TInt a1 fun y => K (.data TInt (M.cmpI x y)) []) args hp, .plain⟩
def cons212 : Cons := [(217, c217)]
def inl212 : List (Nat × Inl) := []
@[reducible] def C212 : Ctx := ⟨tab, fun t => memN t cmps, cons212, 20, inl212, 0, false⟩
theorem consOk212 : ConsOk P C212 := by
  refine consOk_cons (enter_ok (fn := f217) func217 (by kernel_rfl) rfl) con217_ok ?_
  exact consOk_nil
def ann212 : Nat → List Dir
  | 0 => [.keep [0, 1]]
  | 1 => [.keep [0, 1, 5]]
  | 2 => [.keep [0, 1, 5, 6]]
  | 3 => [.keep [0, 1, 6, 11]]
  | 4 => [.keep [12]]
  | 5 => [.keep [4]]
  | 6 => [.keep [4]]
  | 7 => [.keep [0, 1, 13]]
  | 8 => [.keep [4]]
  | 9 => [.keep [0, 1, 16]]
  | 10 => [.keep [4]]
  | 11 => [.keep [19]]
  | 12 => [.keep [4]]
  | 13 => [.keep [4]]
  | _ => []
def L212 (x : Int) (y : Int) : Loops := fun id m st_ K => match id with
  | _ => False
theorem vc212 (x : Int) (y : Int) (K : AV → Hp → Prop) : awp C212 (L212 x y) ann212 (bodyOf f212) ⟨argEnv 0 [.data TInt x, .data TInt y], []⟩ (outK tab false f212.results.toList (hasBox []) (resK (.dat TInt) K)) =
  (cond (false) (cond (false) (K (.data TInt (0 : Int)) []) (K (.data TInt (-1 : Int)) [])) (cond (false) (K (.data TInt (1 : Int)) []) (cond (decide (x < y)) (K (.data TInt (-1 : Int)) []) (cond (decide (y < x)) (K (.data TInt (1 : Int)) []) (K (.data TInt (0 : Int)) []))))) := by kernel_rfl
theorem con212_ok : ConOk P 212 c212 := by
  refine con_okR (fn := f212) (code := bodyOf f212) (tab_ok tab_check cmp_check) consOk212 mixed func212 rfl rfl fun args hp K h0 => ?_
  obtain ⟨a0, a1, rfl, rfl, h1⟩ := args2_elim h0
  obtain ⟨x, rfl, h2⟩ := withD_elim h1
  obtain ⟨y, rfl, h3⟩ := withD_elim h2
  have hK := h3
  have h : ok (F.cmp_Compare_int x y) (fun r => K (.data TInt r) []) := ok_of_eq (F.cmp_Compare_int_eq x y) hK
  refine ⟨⟨show (2 : Nat) ≤ 20 by decide, show (2 : Nat) ≤ 1000000 by decide⟩, ann212, (L212 x y), (.dat TInt), (no_loops (by kernel_rfl)), ?_⟩
  · rw [vc212 x y K]
    exact (ok_cond h (fun b_1 h => (cond_t b_1 (have h := ok_ret h; h))) (fun b_1 h => (cond_f b_1 (ok_cond h (fun b_4 h => (have h := ok_ret h; h)) (fun b_4 h => (ok_cond h (fun b_5 h => (have h := ok_ret h; h)) (fun b_5 h => (have h := ok_ret h; h))))))))

/-! 218: cmp.isNaN[string] -/
def c218 : Con := ⟨[.dat Ty.str], fun args hp K => args1 (fun a0 => withD Ty.str a0 fun x => (Sm Ty.str x) ∧ K (.data Ty.bool (false)) []) args hp, .plain⟩
def cons218 : Cons := []
def inl218 : List (Nat × Inl) := []
@[reducible] def C218 : Ctx := ⟨tab, fun t => memN t cmps, cons218, 6, inl218, 0, false⟩
theorem consOk218 : ConsOk P C218 := by
  exact consOk_nil
def ann218 : Nat → List Dir
  | 0 => [.keep [0]]
  | 1 => [.keep [2]]
  | _ => []
def L218 (x : ByteArray) : Loops := fun id m st_ K => match id with
  | _ => False
theorem vc218 (x : ByteArray) (K : AV → Hp → Prop) : awp C218 (L218 x) ann218 (bodyOf f218) ⟨argEnv 0 [.data Ty.str x], []⟩ (outK tab false f218.results.toList (hasBox []) (resK (.dat Ty.bool) K)) =
  (K (.data Ty.bool (!decide (x = x))) []) := by kernel_rfl
theorem con218_ok : ConOk P 218 c218 := by
  refine con_okR (fn := f218) (code := bodyOf f218) (tab_ok tab_check cmp_check) consOk218 mixed func218 rfl rfl fun args hp K h0 => ?_
  obtain ⟨a0, rfl, rfl, h1⟩ := args1_elim h0
  obtain ⟨x, rfl, h2⟩ := withD_elim h1
  obtain ⟨h_x, hK⟩ := h2
  have h : ok (F.cmp_isNaN_string x) (fun r => K (.data Ty.bool r) []) := ok_of_eq (F.cmp_isNaN_string_eq x h_x) hK
  refine ⟨⟨show (1 : Nat) ≤ 6 by decide, show (1 : Nat) ≤ 1000000 by decide⟩, ann218, (L218 x), (.dat Ty.bool), (no_loops (by kernel_rfl)), ?_⟩
  · rw [vc218 x K]
    exact (have h := ok_ret h; h)

/-! 213: cmp.Compare[string] -/
def c213 : Con := ⟨[.dat Ty.str, .dat Ty.str], fun args hp K => args2 (fun a0 a1 => withD Ty.str a0 fun x => withD Ty.str a1 fun y => (Sm Ty.str x) ∧ (Sm Ty.str y) ∧ K (.data TInt (M.cmpS x y)) []) args hp, .plain⟩
def cons213 : Cons := [(218, c218)]
def inl213 : List (Nat × Inl) := []
@[reducible] def C213 : Ctx := ⟨tab, fun t => memN t cmps, cons213, 20, inl213, 0, false⟩
theorem consOk213 : ConsOk P C213 := by
  refine consOk_cons (enter_ok (fn := f218) func218 (by kernel_rfl) rfl) con218_ok ?_
  exact consOk_nil
def ann213 : Nat → List Dir
  | 0 => [.keep [0, 1]]
  | 1 => [.keep [0, 1, 5]]
  | 2 => [.keep [0, 1, 5, 6]]
  | 3 => [.keep [0, 1, 6, 11]]
  | 4 => [.keep [12]]
  | 5 => [.keep [4]]
  | 6 => [.keep [4]]
  | 7 => [.keep [0, 1, 13]]
  | 8 => [.keep [4]]
  | 9 => [.keep [0, 1, 16]]
  | 10 => [.keep [4]]
  | 11 => [.keep [19]]
  | 12 => [.keep [4]]
  | 13 => [.keep [4]]
  | _ => []
def L213 (x : ByteArray) (y : ByteArray) : Loops := fun id m st_ K => match id with
  | _ => False
theorem vc213 (x : ByteArray) (y : ByteArray) (K : AV → Hp → Prop) : awp C213 (L213 x y) ann213 (bodyOf f213) ⟨argEnv 0 [.data Ty.str x, .data Ty.str y], []⟩ (outK tab false f213.results.toList (hasBox []) (resK (.dat TInt) K)) =
  ((Sm Ty.str x) ∧ (Sm Ty.str y) ∧ cond (false) (cond (false) (K (.data TInt (0 : Int)) []) (K (.data TInt (-1 : Int)) [])) (cond (false) (K (.data TInt (1 : Int)) []) (cond (Op.bytesLess x.toList y.toList) (K (.data TInt (-1 : Int)) []) (cond (!(Op.bytesLess x.toList y.toList || decide (x = y))) (K (.data TInt (1 : Int)) []) (K (.data TInt (0 : Int)) []))))) := by kernel_rfl
theorem con213_ok : ConOk P 213 c213 := by
  refine con_okR (fn := f213) (code := bodyOf f213) (tab_ok tab_check cmp_check) consOk213 mixed func213 rfl rfl fun args hp K h0 => ?_
  obtain ⟨a0, a1, rfl, rfl, h1⟩ := args2_elim h0
  obtain ⟨x, rfl, h2⟩ := withD_elim h1
  obtain ⟨y, rfl, h3⟩ := withD_elim h2
  obtain ⟨h_x, h_y, hK⟩ := h3
  have h : ok (F.cmp_Compare_string x y) (fun r => K (.data TInt r) []) := ok_of_eq (F.cmp_Compare_string_eq x y h_x h_y) hK
  refine ⟨⟨show (2 : Nat) ≤ 20 by decide, show (2 : Nat) ≤ 1000000 by decide⟩, ann213, (L213 x y), (.dat TInt), (no_loops (by kernel_rfl)), ?_⟩
  · rw [vc213 x y K]
    exact ⟨h_x, ⟨h_y, (ok_cond h (fun b_1 h => (cond_t b_1 (have h := ok_ret h; h))) (fun b_1 h => (cond_f b_1 (ok_cond h (fun b_4 h => (have h := ok_ret h; h)) (fun b_4 h => (ok_cond h (fun b_5 h => (have h := ok_ret h; h)) (fun b_5 h => (have h := ok_ret h; h))))))))⟩⟩

/-! 201: (loop.example/tablehouse/impl.Value).order -/
def c201 : Con := ⟨[.dat TValue, .dat TValue], fun args hp K => args2 (fun a0 a1 => withD TValue a0 fun v => withD TValue a1 fun w => (Sm TValue v) ∧ (Sm TValue w) ∧ K (.data TInt (M.order v w)) []) args hp, .plain⟩
def cons201 : Cons := [(211, c211), (212, c212), (213, c213)]
def inl201 : List (Nat × Inl) := []
@[reducible] def C201 : Ctx := ⟨tab, fun t => memN t cmps, cons201, 22, inl201, 0, false⟩
theorem consOk201 : ConsOk P C201 := by
  refine consOk_cons (enter_ok (fn := f211) func211 (by kernel_rfl) rfl) con211_ok ?_
  refine consOk_cons (enter_ok (fn := f212) func212 (by kernel_rfl) rfl) con212_ok ?_
  refine consOk_cons (enter_ok (fn := f213) func213 (by kernel_rfl) rfl) con213_ok ?_
  exact consOk_nil
def ann201 : Nat → List Dir
  | 0 => [.fixRow 2 TValue, .fixRow 3 TValue, .keep [2, 3]]
  | 1 => [.keep [4]]
  | _ => []
def L201 (v : (TValue).D) (w : (TValue).D) : Loops := fun id m st_ K => match id with
  | _ => False
theorem vc201 (v : (TValue).D) (w : (TValue).D) (K : AV → Hp → Prop) : awp C201 (L201 v w) ann201 (bodyOf f201) ⟨argEnv 0 [.data TValue v, .data TValue w], []⟩ (outK tab false f201.results.toList (hasBox []) (resK (.dat TInt) K)) =
  ((Sm Ty.str v.2.2.1) ∧ (Sm Ty.str w.2.2.1) ∧ (Sm (Ty.sl TInt) [(M.cmpI v.1 w.1), (M.cmpI v.2.1 w.2.1), (M.cmpS v.2.2.1 w.2.2.1)]) ∧ K (.data TInt (M.orI [(M.cmpI v.1 w.1), (M.cmpI v.2.1 w.2.1), (M.cmpS v.2.2.1 w.2.2.1)])) []) := by kernel_rfl
theorem con201_ok : ConOk P 201 c201 := by
  refine con_okR (fn := f201) (code := bodyOf f201) (tab_ok tab_check cmp_check) consOk201 mixed func201 rfl rfl fun args hp K h0 => ?_
  obtain ⟨a0, a1, rfl, rfl, h1⟩ := args2_elim h0
  obtain ⟨v, rfl, h2⟩ := withD_elim h1
  obtain ⟨w, rfl, h3⟩ := withD_elim h2
  obtain ⟨h_v, h_w, hK⟩ := h3
  have h : ok (F.impl_Value_order v w) (fun r => K (.data TInt r) []) := ok_of_eq (F.impl_Value_order_eq v w h_v h_w) hK
  refine ⟨⟨show (2 : Nat) ≤ 22 by decide, show (2 : Nat) ≤ 1000000 by decide⟩, ann201, (L201 v w), (.dat TInt), (no_loops (by kernel_rfl)), ?_⟩
  · rw [vc201 v w K]
    exact ⟨h_v.2.2.1, ⟨h_w.2.2.1, ⟨(ok_guard h).1, have h := (ok_guard h).2; (have h := ok_ret h; h)⟩⟩⟩

/-! 177: loop.example/tablehouse/impl.Compare -/
def c177 : Con := ⟨[.dat TInt, .dat TValue, .dat TValue], fun args hp K => args3 (fun a0 a1 a2 => withD TInt a0 fun kind => withD TValue a1 fun a => withD TValue a2 fun b => (Sm TValue a) ∧ (Sm TValue b) ∧ K (.data TInt (M.compare kind a b)) []) args hp, .plain⟩
def cons177 : Cons := [(66, c66), (171, c171), (182, c182), (201, c201)]
def inl177 : List (Nat × Inl) := []
@[reducible] def C177 : Ctx := ⟨tab, fun t => memN t cmps, cons177, 71, inl177, 0, false⟩
theorem consOk177 : ConsOk P C177 := by
  refine consOk_cons (enter_ok (fn := f66) func66 (by kernel_rfl) rfl) con66_ok ?_
  refine consOk_cons (enter_ok (fn := f171) func171 (by kernel_rfl) rfl) con171_ok ?_
  refine consOk_cons (enter_ok (fn := f182) func182 (by kernel_rfl) rfl) con182_ok ?_
  refine consOk_cons (enter_ok (fn := f201) func201 (by kernel_rfl) rfl) con201_ok ?_
  exact consOk_nil
def ann177 : Nat → List Dir
  | 0 => [.fixRow 4 TValue, .fixRow 5 TValue, .keep [0, 4, 5]]
  | 1 => [.keep [0, 4, 5, 8]]
  | 2 => [.keep [6]]
  | 3 => [.keep [0, 4, 5, 22]]
  | 4 => [.keep [6]]
  | 5 => [.keep [0, 4, 5, 31]]
  | 6 => [.keep [6]]
  | 7 => [.keep [0, 7]]
  | 8 => [.keep [6]]
  | _ => []
def L177 (kind : Int) (a : (TValue).D) (b : (TValue).D) : Loops := fun id m st_ K => match id with
  | _ => False
@[reducible] def S177_0 (kind : Int) (a : (TValue).D) (b : (TValue).D) (K : AV → Hp → Prop) : Prop := cond ((decide (kind = (4 : Int))) == true) (K (.data TInt (M.bool (decide ((M.order a b) ≤ (0 : Int))))) []) (K (.data TInt (M.bool false)) [])
@[reducible] def S177_1 (kind : Int) (a : (TValue).D) (b : (TValue).D) (K : AV → Hp → Prop) : Prop := cond ((decide (kind = (3 : Int))) == true) (cond ((decide ((M.order a b) < (0 : Int))) == false) ((S177_0 kind a b K)) (K (.data TInt (M.bool true)) [])) ((S177_0 kind a b K))
@[reducible] def S177_2 (kind : Int) (a : (TValue).D) (b : (TValue).D) (K : AV → Hp → Prop) : Prop := cond ((decide (kind = (2 : Int))) == true) (cond ((!decide ((M.order a b) = (0 : Int))) == false) ((S177_1 kind a b K)) (K (.data TInt (M.bool true)) [])) ((S177_1 kind a b K))
theorem vc177 (kind : Int) (a : (TValue).D) (b : (TValue).D) (K : AV → Hp → Prop) : awp C177 (L177 kind a b) ann177 (bodyOf f177) ⟨argEnv 0 [.data TInt kind, .data TValue a, .data TValue b], []⟩ (outK tab false f177.results.toList (hasBox []) (resK (.dat TInt) K)) =
  (cond ((!(M.inR kind (1 : Int) (4 : Int))) == false) ((Sm TValue a) ∧ cond ((!(M.valueOk a)) == false) ((Sm TValue b) ∧ cond (!(M.valueOk b)) (K (.data TInt (-1 : Int)) []) (cond ((decide (a.1 = (0 : Int))) == false) (cond (decide (b.1 = (0 : Int))) (K (.data TInt (2 : Int)) []) (cond (!decide (a.1 = b.1)) (K (.data TInt (-1 : Int)) []) ((Sm TValue a) ∧ (Sm TValue b) ∧ cond ((decide (kind = (1 : Int))) == true) (cond ((decide ((M.order a b) = (0 : Int))) == false) ((S177_2 kind a b K)) (K (.data TInt (M.bool true)) [])) ((S177_2 kind a b K))))) (K (.data TInt (2 : Int)) []))) (K (.data TInt (-1 : Int)) [])) (K (.data TInt (-1 : Int)) [])) := by kernel_rfl
theorem con177_ok : ConOk P 177 c177 := by
  refine con_okR (fn := f177) (code := bodyOf f177) (tab_ok tab_check cmp_check) consOk177 mixed func177 rfl rfl fun args hp K h0 => ?_
  obtain ⟨a0, a1, a2, rfl, rfl, h1⟩ := args3_elim h0
  obtain ⟨kind, rfl, h2⟩ := withD_elim h1
  obtain ⟨a, rfl, h3⟩ := withD_elim h2
  obtain ⟨b, rfl, h4⟩ := withD_elim h3
  obtain ⟨h_a, h_b, hK⟩ := h4
  have h : ok (F.impl_Compare kind a b) (fun r => K (.data TInt r) []) := ok_of_eq (F.impl_Compare_eq kind a b h_a h_b) hK
  refine ⟨⟨show (3 : Nat) ≤ 71 by decide, show (3 : Nat) ≤ 1000000 by decide⟩, ann177, (L177 kind a b), (.dat TInt), (no_loops (by kernel_rfl)), ?_⟩
  · rw [vc177 kind a b K]
    exact (ok_cond h (fun b_1 h => ⟨h_a, (ok_cond h (fun b_2 h => ⟨h_b, (ok_cond h (fun b_3 h => (have h := ok_ret h; h)) (fun b_3 h => (ok_cond h (fun b_4 h => (ok_cond h (fun b_5 h => (have h := ok_ret h; h)) (fun b_5 h => (ok_cond h (fun b_6 h => (have h := ok_ret h; h)) (fun b_6 h => ⟨h_a, ⟨h_b, (ok_cond h (fun b_7 h => (ok_cond h (fun b_8 h => (cond_f (uef (dec_ne (bet b_7) (by decide))) (cond_f (uef (dec_ne (bet b_7) (by decide))) (cond_f (uef (dec_ne (bet b_7) (by decide))) (have h := ok_ret h; h))))) (fun b_8 h => (have h := ok_ret h; h)))) (fun b_7 h => (ok_cond h (fun b_19 h => (ok_cond h (fun b_20 h => (cond_f (uef (dec_ne (bet b_19) (by decide))) (cond_f (uef (dec_ne (bet b_19) (by decide))) (have h := ok_ret h; h)))) (fun b_20 h => (have h := ok_ret h; h)))) (fun b_19 h => (ok_cond h (fun b_25 h => (ok_cond h (fun b_26 h => (cond_f (uef (dec_ne (bet b_25) (by decide))) (have h := ok_ret h; h))) (fun b_26 h => (have h := ok_ret h; h)))) (fun b_25 h => (ok_cond h (fun b_28 h => (have h := ok_ret h; h)) (fun b_28 h => (have h := ok_ret h; h)))))))))⟩⟩))))) (fun b_4 h => (have h := ok_ret h; h)))))⟩) (fun b_2 h => (have h := ok_ret h; h)))⟩) (fun b_1 h => (have h := ok_ret h; h)))

/-! 214: loop.example/tablehouse/impl.TruthOk -/
def c214 : Con := ⟨[.dat TInt], fun args hp K => args1 (fun a0 => withD TInt a0 fun n => K (.data Ty.bool (M.inR n 0 2)) []) args hp, .plain⟩
def cons214 : Cons := [(66, c66)]
def inl214 : List (Nat × Inl) := []
@[reducible] def C214 : Ctx := ⟨tab, fun t => memN t cmps, cons214, 5, inl214, 0, false⟩
theorem consOk214 : ConsOk P C214 := by
  refine consOk_cons (enter_ok (fn := f66) func66 (by kernel_rfl) rfl) con66_ok ?_
  exact consOk_nil
def ann214 : Nat → List Dir
  | 0 => [.keep [0]]
  | 1 => [.keep [2]]
  | _ => []
def L214 (n : Int) : Loops := fun id m st_ K => match id with
  | _ => False
theorem vc214 (n : Int) (K : AV → Hp → Prop) : awp C214 (L214 n) ann214 (bodyOf f214) ⟨argEnv 0 [.data TInt n], []⟩ (outK tab false f214.results.toList (hasBox []) (resK (.dat Ty.bool) K)) =
  (K (.data Ty.bool (M.inR n (0 : Int) (2 : Int))) []) := by kernel_rfl
theorem con214_ok : ConOk P 214 c214 := by
  refine con_okR (fn := f214) (code := bodyOf f214) (tab_ok tab_check cmp_check) consOk214 mixed func214 rfl rfl fun args hp K h0 => ?_
  obtain ⟨a0, rfl, rfl, h1⟩ := args1_elim h0
  obtain ⟨n, rfl, h2⟩ := withD_elim h1
  have hK := h2
  have h : ok (F.impl_TruthOk n) (fun r => K (.data Ty.bool r) []) := ok_of_eq (F.impl_TruthOk_eq n) hK
  refine ⟨⟨show (1 : Nat) ≤ 5 by decide, show (1 : Nat) ≤ 1000000 by decide⟩, ann214, (L214 n), (.dat Ty.bool), (no_loops (by kernel_rfl)), ?_⟩
  · rw [vc214 n K]
    exact (have h := ok_ret h; h)

/-! 202: loop.example/tablehouse/impl.fold -/
def c202 : Con := ⟨[.dat TInt, .dat TInt, .dat TInt], fun args hp K => args3 (fun a0 a1 a2 => withD TInt a0 fun a => withD TInt a1 fun b => withD TInt a2 fun alone => (0 ≤ alone ∧ alone ≤ 1) ∧ K (.data TInt (M.fold a b alone)) []) args hp, .plain⟩
def cons202 : Cons := [(214, c214)]
def inl202 : List (Nat × Inl) := []
@[reducible] def C202 : Ctx := ⟨tab, fun t => memN t cmps, cons202, 35, inl202, 0, false⟩
theorem consOk202 : ConsOk P C202 := by
  refine consOk_cons (enter_ok (fn := f214) func214 (by kernel_rfl) rfl) con214_ok ?_
  exact consOk_nil
def ann202 : Nat → List Dir
  | 0 => [.keep [0, 1, 2]]
  | 1 => [.keep [0, 1, 2, 7]]
  | 2 => [.keep [6]]
  | 3 => [.keep [0, 1, 2, 16]]
  | 4 => [.keep [6]]
  | 5 => [.keep [2, 26]]
  | 6 => [.keep [6]]
  | 7 => [.keep [6]]
  | _ => []
def L202 (a : Int) (b : Int) (alone : Int) : Loops := fun id m st_ K => match id with
  | _ => False
theorem vc202 (a : Int) (b : Int) (alone : Int) (K : AV → Hp → Prop) : awp C202 (L202 a b alone) ann202 (bodyOf f202) ⟨argEnv 0 [.data TInt a, .data TInt b, .data TInt alone], []⟩ (outK tab false f202.results.toList (hasBox []) (resK (.dat TInt) K)) =
  (cond ((!(M.inR a 0 2)) == false) (cond (!(M.inR b 0 2)) (K (.data TInt (-1 : Int)) []) (cond ((decide (a = alone)) == false) (cond (decide (b = alone)) (K (.data TInt alone) []) (cond ((decide (a = (2 : Int))) == false) (cond (decide (b = (2 : Int))) (K (.data TInt (2 : Int)) []) (K (.data TInt (wrap64 ((1 : Int) - alone))) [])) (K (.data TInt (2 : Int)) []))) (K (.data TInt alone) []))) (K (.data TInt (-1 : Int)) [])) := by kernel_rfl
theorem con202_ok : ConOk P 202 c202 := by
  refine con_okR (fn := f202) (code := bodyOf f202) (tab_ok tab_check cmp_check) consOk202 mixed func202 rfl rfl fun args hp K h0 => ?_
  obtain ⟨a0, a1, a2, rfl, rfl, h1⟩ := args3_elim h0
  obtain ⟨a, rfl, h2⟩ := withD_elim h1
  obtain ⟨b, rfl, h3⟩ := withD_elim h2
  obtain ⟨alone, rfl, h4⟩ := withD_elim h3
  obtain ⟨p0, hK⟩ := h4
  have h : ok (F.impl_fold a b alone) (fun r => K (.data TInt r) []) := ok_of_eq (F.impl_fold_eq a b alone p0) hK
  refine ⟨⟨show (3 : Nat) ≤ 35 by decide, show (3 : Nat) ≤ 1000000 by decide⟩, ann202, (L202 a b alone), (.dat TInt), (no_loops (by kernel_rfl)), ?_⟩
  · rw [vc202 a b alone K]
    exact (ok_cond h (fun b_1 h => (ok_cond h (fun b_2 h => (have h := ok_ret h; h)) (fun b_2 h => (ok_cond h (fun b_3 h => (ok_cond h (fun b_4 h => (have h := ok_ret h; h)) (fun b_4 h => (ok_cond h (fun b_5 h => (ok_cond h (fun b_6 h => (have h := ok_ret h; h)) (fun b_6 h => (have h := ok_ret h; h)))) (fun b_5 h => (have h := ok_ret h; h)))))) (fun b_3 h => (have h := ok_ret h; h)))))) (fun b_1 h => (have h := ok_ret h; h)))

/-! 178: loop.example/tablehouse/impl.AndOf -/
def c178 : Con := ⟨[.dat TInt, .dat TInt], fun args hp K => args2 (fun a0 a1 => withD TInt a0 fun a => withD TInt a1 fun b => K (.data TInt (M.andOf a b)) []) args hp, .plain⟩
def cons178 : Cons := [(202, c202)]
def inl178 : List (Nat × Inl) := []
@[reducible] def C178 : Ctx := ⟨tab, fun t => memN t cmps, cons178, 8, inl178, 0, false⟩
theorem consOk178 : ConsOk P C178 := by
  refine consOk_cons (enter_ok (fn := f202) func202 (by kernel_rfl) rfl) con202_ok ?_
  exact consOk_nil
def ann178 : Nat → List Dir
  | 0 => [.keep [0, 1]]
  | 1 => [.keep [4]]
  | _ => []
def L178 (a : Int) (b : Int) : Loops := fun id m st_ K => match id with
  | _ => False
theorem vc178 (a : Int) (b : Int) (K : AV → Hp → Prop) : awp C178 (L178 a b) ann178 (bodyOf f178) ⟨argEnv 0 [.data TInt a, .data TInt b], []⟩ (outK tab false f178.results.toList (hasBox []) (resK (.dat TInt) K)) =
  ((0 ≤ (0 : Int) ∧ (0 : Int) ≤ 1) ∧ K (.data TInt (M.fold a b (0 : Int))) []) := by kernel_rfl
theorem con178_ok : ConOk P 178 c178 := by
  refine con_okR (fn := f178) (code := bodyOf f178) (tab_ok tab_check cmp_check) consOk178 mixed func178 rfl rfl fun args hp K h0 => ?_
  obtain ⟨a0, a1, rfl, rfl, h1⟩ := args2_elim h0
  obtain ⟨a, rfl, h2⟩ := withD_elim h1
  obtain ⟨b, rfl, h3⟩ := withD_elim h2
  have hK := h3
  have h : ok (F.impl_AndOf a b) (fun r => K (.data TInt r) []) := ok_of_eq (F.impl_AndOf_eq a b) hK
  refine ⟨⟨show (2 : Nat) ≤ 8 by decide, show (2 : Nat) ≤ 1000000 by decide⟩, ann178, (L178 a b), (.dat TInt), (no_loops (by kernel_rfl)), ?_⟩
  · rw [vc178 a b K]
    exact ⟨(ok_guard h).1, have h := (ok_guard h).2; (have h := ok_ret h; h)⟩

/-! 179: loop.example/tablehouse/impl.TruthOf -/
def c179 : Con := ⟨[.dat TValue], fun args hp K => args1 (fun a0 => withD TValue a0 fun v => (Sm TValue v) ∧ K (.data TInt (M.truthOf v)) []) args hp, .plain⟩
def cons179 : Cons := [(171, c171)]
def inl179 : List (Nat × Inl) := []
@[reducible] def C179 : Ctx := ⟨tab, fun t => memN t cmps, cons179, 17, inl179, 0, false⟩
theorem consOk179 : ConsOk P C179 := by
  refine consOk_cons (enter_ok (fn := f171) func171 (by kernel_rfl) rfl) con171_ok ?_
  exact consOk_nil
def ann179 : Nat → List Dir
  | 0 => [.fixRow 1 TValue, .keep [1]]
  | 1 => [.keep [1, 3]]
  | 2 => [.keep [2]]
  | 3 => [.keep [1, 7]]
  | 4 => [.keep [2]]
  | 5 => [.keep [1, 11]]
  | 6 => [.keep [2]]
  | 7 => [.keep [2]]
  | _ => []
def L179 (v : (TValue).D) : Loops := fun id m st_ K => match id with
  | _ => False
theorem vc179 (v : (TValue).D) (K : AV → Hp → Prop) : awp C179 (L179 v) ann179 (bodyOf f179) ⟨argEnv 0 [.data TValue v], []⟩ (outK tab false f179.results.toList (hasBox []) (resK (.dat TInt) K)) =
  ((Sm TValue v) ∧ cond (!(M.valueOk v)) (K (.data TInt (-1 : Int)) []) (cond (decide (v.1 = (0 : Int))) (K (.data TInt (2 : Int)) []) (cond (decide (v.1 = (3 : Int))) (K (.data TInt v.2.1) []) (K (.data TInt (-1 : Int)) [])))) := by kernel_rfl
theorem con179_ok : ConOk P 179 c179 := by
  refine con_okR (fn := f179) (code := bodyOf f179) (tab_ok tab_check cmp_check) consOk179 mixed func179 rfl rfl fun args hp K h0 => ?_
  obtain ⟨a0, rfl, rfl, h1⟩ := args1_elim h0
  obtain ⟨v, rfl, h2⟩ := withD_elim h1
  obtain ⟨h_v, hK⟩ := h2
  have h : ok (F.impl_TruthOf v) (fun r => K (.data TInt r) []) := ok_of_eq (F.impl_TruthOf_eq v h_v) hK
  refine ⟨⟨show (1 : Nat) ≤ 17 by decide, show (1 : Nat) ≤ 1000000 by decide⟩, ann179, (L179 v), (.dat TInt), (no_loops (by kernel_rfl)), ?_⟩
  · rw [vc179 v K]
    exact ⟨h_v, (ok_cond h (fun b_1 h => (have h := ok_ret h; h)) (fun b_1 h => (ok_cond h (fun b_2 h => (have h := ok_ret h; h)) (fun b_2 h => (ok_cond h (fun b_3 h => (have h := ok_ret h; h)) (fun b_3 h => (have h := ok_ret h; h)))))))⟩

/-! 180: loop.example/tablehouse/impl.OrOf -/
def c180 : Con := ⟨[.dat TInt, .dat TInt], fun args hp K => args2 (fun a0 a1 => withD TInt a0 fun a => withD TInt a1 fun b => K (.data TInt (M.orOf a b)) []) args hp, .plain⟩
def cons180 : Cons := [(202, c202)]
def inl180 : List (Nat × Inl) := []
@[reducible] def C180 : Ctx := ⟨tab, fun t => memN t cmps, cons180, 8, inl180, 0, false⟩
theorem consOk180 : ConsOk P C180 := by
  refine consOk_cons (enter_ok (fn := f202) func202 (by kernel_rfl) rfl) con202_ok ?_
  exact consOk_nil
def ann180 : Nat → List Dir
  | 0 => [.keep [0, 1]]
  | 1 => [.keep [4]]
  | _ => []
def L180 (a : Int) (b : Int) : Loops := fun id m st_ K => match id with
  | _ => False
theorem vc180 (a : Int) (b : Int) (K : AV → Hp → Prop) : awp C180 (L180 a b) ann180 (bodyOf f180) ⟨argEnv 0 [.data TInt a, .data TInt b], []⟩ (outK tab false f180.results.toList (hasBox []) (resK (.dat TInt) K)) =
  ((0 ≤ (1 : Int) ∧ (1 : Int) ≤ 1) ∧ K (.data TInt (M.fold a b (1 : Int))) []) := by kernel_rfl
theorem con180_ok : ConOk P 180 c180 := by
  refine con_okR (fn := f180) (code := bodyOf f180) (tab_ok tab_check cmp_check) consOk180 mixed func180 rfl rfl fun args hp K h0 => ?_
  obtain ⟨a0, a1, rfl, rfl, h1⟩ := args2_elim h0
  obtain ⟨a, rfl, h2⟩ := withD_elim h1
  obtain ⟨b, rfl, h3⟩ := withD_elim h2
  have hK := h3
  have h : ok (F.impl_OrOf a b) (fun r => K (.data TInt r) []) := ok_of_eq (F.impl_OrOf_eq a b) hK
  refine ⟨⟨show (2 : Nat) ≤ 8 by decide, show (2 : Nat) ≤ 1000000 by decide⟩, ann180, (L180 a b), (.dat TInt), (no_loops (by kernel_rfl)), ?_⟩
  · rw [vc180 a b K]
    exact ⟨(ok_guard h).1, have h := (ok_guard h).2; (have h := ok_ret h; h)⟩

/-! 181: loop.example/tablehouse/impl.NotOf -/
def c181 : Con := ⟨[.dat TInt], fun args hp K => args1 (fun a0 => withD TInt a0 fun a => K (.data TInt (M.notOf a)) []) args hp, .plain⟩
def cons181 : Cons := []
def inl181 : List (Nat × Inl) := []
@[reducible] def C181 : Ctx := ⟨tab, fun t => memN t cmps, cons181, 10, inl181, 0, false⟩
theorem consOk181 : ConsOk P C181 := by
  exact consOk_nil
def ann181 : Nat → List Dir
  | 0 => [.keep [0]]
  | 1 => [.keep [3]]
  | 2 => [.keep [3, 4]]
  | 3 => [.keep [2]]
  | 4 => [.keep [3, 6]]
  | 5 => [.keep [2]]
  | 6 => [.keep [8]]
  | 7 => [.keep [2]]
  | 8 => [.keep [2]]
  | _ => []
def L181 (a : Int) : Loops := fun id m st_ K => match id with
  | _ => False
theorem vc181 (a : Int) (K : AV → Hp → Prop) : awp C181 (L181 a) ann181 (bodyOf f181) ⟨argEnv 0 [.data TInt a], []⟩ (outK tab false f181.results.toList (hasBox []) (resK (.dat TInt) K)) =
  (cond (decide (a = (0 : Int))) (K (.data TInt (1 : Int)) []) (cond (decide (a = (1 : Int))) (K (.data TInt (0 : Int)) []) (cond (decide (a = (2 : Int))) (K (.data TInt (2 : Int)) []) (K (.data TInt (-1 : Int)) [])))) := by kernel_rfl
theorem con181_ok : ConOk P 181 c181 := by
  refine con_okR (fn := f181) (code := bodyOf f181) (tab_ok tab_check cmp_check) consOk181 mixed func181 rfl rfl fun args hp K h0 => ?_
  obtain ⟨a0, rfl, rfl, h1⟩ := args1_elim h0
  obtain ⟨a, rfl, h2⟩ := withD_elim h1
  have hK := h2
  have h : ok (F.impl_NotOf a) (fun r => K (.data TInt r) []) := ok_of_eq (F.impl_NotOf_eq a) hK
  refine ⟨⟨show (1 : Nat) ≤ 10 by decide, show (1 : Nat) ≤ 1000000 by decide⟩, ann181, (L181 a), (.dat TInt), (no_loops (by kernel_rfl)), ?_⟩
  · rw [vc181 a K]
    exact (ok_cond h (fun b_1 h => (have h := ok_ret h; h)) (fun b_1 h => (ok_cond h (fun b_2 h => (have h := ok_ret h; h)) (fun b_2 h => (ok_cond h (fun b_3 h => (have h := ok_ret h; h)) (fun b_3 h => (have h := ok_ret h; h)))))))

/-! 139: (loop.example/tablehouse/impl.Part).value -/
def c139 : Con := ⟨[.dat TPart, .dat (Ty.sl TValue), .lent TValue], fun args hp K => args3 (fun a0 a1 a2 => withD TPart a0 fun p => withD (Ty.sl TValue) a1 fun row => withB TValue a2 fun inp => (Sm TPart p) ∧ (Sm (Ty.sl TValue) row) ∧ (Sm (Ty.sl TValue) inp) ∧ ((inp.length : Int) = M.takes p) ∧ (M.colIn p row.length) ∧ (1 ≤ p.1 ∧ p.1 ≤ 8) ∧ (∀ r : (TValue).D, r = (M.partValue p row inp) → K (.data TValue r) [])) args hp, .plain⟩
def cons139 : Cons := [(105, c105), (171, c171), (177, c177), (178, c178), (179, c179), (180, c180), (181, c181), (182, c182)]
def inl139 : List (Nat × Inl) := []
@[reducible] def C139 : Ctx := ⟨tab, fun t => memN t cmps, cons139, 103, inl139, 0, false⟩
theorem consOk139 : ConsOk P C139 := by
  refine consOk_cons (enter_ok (fn := f105) func105 (by kernel_rfl) rfl) con105_ok ?_
  refine consOk_cons (enter_ok (fn := f171) func171 (by kernel_rfl) rfl) con171_ok ?_
  refine consOk_cons (enter_ok (fn := f177) func177 (by kernel_rfl) rfl) con177_ok ?_
  refine consOk_cons (enter_ok (fn := f178) func178 (by kernel_rfl) rfl) con178_ok ?_
  refine consOk_cons (enter_ok (fn := f179) func179 (by kernel_rfl) rfl) con179_ok ?_
  refine consOk_cons (enter_ok (fn := f180) func180 (by kernel_rfl) rfl) con180_ok ?_
  refine consOk_cons (enter_ok (fn := f181) func181 (by kernel_rfl) rfl) con181_ok ?_
  refine consOk_cons (enter_ok (fn := f182) func182 (by kernel_rfl) rfl) con182_ok ?_
  exact consOk_nil
def ann139 : Nat → List Dir
  | 0 => [.fixRow 3 TPart, .keep [1, 2, 3, 6]]
  | 1 => [.keep [1, 2, 3, 6, 9]]
  | 2 => [.keep [1, 2, 3, 6, 9, 10]]
  | 3 => [.keep [6]]
  | 4 => [.keep [1, 2, 3, 6, 9, 14]]
  | 5 => [.keep [6]]
  | 6 => [.keep [2, 3, 6, 9, 21]]
  | 7 => [.fixRow 7 TValue, .keep [2, 6, 7]]
  | 8 => [.keep [6, 7, 49]]
  | 9 => [.keep [6]]
  | 10 => [.keep [6]]
  | 11 => [.keep [2, 3, 6, 9, 52]]
  | 12 => [.keep [6]]
  | 13 => [.keep [2, 6, 9, 64]]
  | 14 => [.keep [6]]
  | 15 => [.keep [2, 6, 9, 76]]
  | 16 => [.keep [6]]
  | 17 => [.keep [2, 6, 88]]
  | 18 => [.keep [6]]
  | 19 => [.keep [6]]
  | _ => []
def L139 (p : (TPart).D) (row : (List (TValue).D)) (inp : (List (TValue).D)) : Loops := fun id m st_ K => match id with
  | _ => False
theorem vc139 (p : (TPart).D) (row : (List (TValue).D)) (inp : (List (TValue).D)) (K : AV → Hp → Prop) : awp C139 (L139 p row inp) ann139 (bodyOf f139) ⟨argEnv 0 [.data TPart p, .data (Ty.sl TValue) row, .brw TValue inp], []⟩ (outK tab false f139.results.toList (hasBox []) (resK (.dat TValue) K)) =
  (cond (decide (p.1 = (1 : Int))) (K (.data TValue p.2.2.1) []) (cond (decide (p.1 = (2 : Int))) ((0 ≤ p.2.1) ∧ (p.2.1 < (row.length : Int)) ∧ K (.data TValue (nth (t := TValue) row p.2.1)) []) (cond (decide (p.1 = (3 : Int))) ((0 ≤ (0 : Int)) ∧ ((0 : Int) < (inp.length : Int)) ∧ (0 ≤ (1 : Int)) ∧ ((1 : Int) < (inp.length : Int)) ∧ (0 ≤ (0 : Int)) ∧ ((0 : Int) < (inp.length : Int)) ∧ cond ((decide ((nth (t := TValue) inp (0 : Int)).1 = (0 : Int))) == false) ((0 ≤ (1 : Int)) ∧ ((1 : Int) < (inp.length : Int)) ∧ cond ((decide ((nth (t := TValue) inp (1 : Int)).1 = (0 : Int))) == false) ((Sm TValue ((1 : Int), (wrap64 (((nth (t := TValue) inp (0 : Int)).2).1 + ((nth (t := TValue) inp (1 : Int)).2).1), ((⟨#[]⟩ : ByteArray), ())))) ∧ cond (!(M.valueOk ((1 : Int), (wrap64 (((nth (t := TValue) inp (0 : Int)).2).1 + ((nth (t := TValue) inp (1 : Int)).2).1), ((⟨#[]⟩ : ByteArray), ()))))) (K (.data TValue ((0 : Int), ((0 : Int), ((⟨#[]⟩ : ByteArray), ())))) []) (K (.data TValue ((1 : Int), (wrap64 (((nth (t := TValue) inp (0 : Int)).2).1 + ((nth (t := TValue) inp (1 : Int)).2).1), ((⟨#[]⟩ : ByteArray), ())))) [])) (K (.data TValue ((0 : Int), ((0 : Int), ((⟨#[]⟩ : ByteArray), ())))) [])) (K (.data TValue ((0 : Int), ((0 : Int), ((⟨#[]⟩ : ByteArray), ())))) [])) (cond (decide (p.1 = (4 : Int))) ((0 ≤ (0 : Int)) ∧ ((0 : Int) < (inp.length : Int)) ∧ (0 ≤ (1 : Int)) ∧ ((1 : Int) < (inp.length : Int)) ∧ (Sm TValue (nth (t := TValue) inp (0 : Int))) ∧ (Sm TValue (nth (t := TValue) inp (1 : Int))) ∧ (∀ r_12_9 : (TValue).D, r_12_9 = (M.valueOf (M.compare p.2.1 (nth (t := TValue) inp (0 : Int)) (nth (t := TValue) inp (1 : Int)))) → K (.data TValue r_12_9) [])) (cond (decide (p.1 = (5 : Int))) ((0 ≤ (0 : Int)) ∧ ((0 : Int) < (inp.length : Int)) ∧ (0 ≤ (1 : Int)) ∧ ((1 : Int) < (inp.length : Int)) ∧ (Sm TValue (nth (t := TValue) inp (0 : Int))) ∧ (Sm TValue (nth (t := TValue) inp (1 : Int))) ∧ (∀ r_14_9 : (TValue).D, r_14_9 = (M.valueOf (M.andOf (M.truthOf (nth (t := TValue) inp (0 : Int))) (M.truthOf (nth (t := TValue) inp (1 : Int))))) → K (.data TValue r_14_9) [])) (cond (decide (p.1 = (6 : Int))) ((0 ≤ (0 : Int)) ∧ ((0 : Int) < (inp.length : Int)) ∧ (0 ≤ (1 : Int)) ∧ ((1 : Int) < (inp.length : Int)) ∧ (Sm TValue (nth (t := TValue) inp (0 : Int))) ∧ (Sm TValue (nth (t := TValue) inp (1 : Int))) ∧ (∀ r_16_9 : (TValue).D, r_16_9 = (M.valueOf (M.orOf (M.truthOf (nth (t := TValue) inp (0 : Int))) (M.truthOf (nth (t := TValue) inp (1 : Int))))) → K (.data TValue r_16_9) [])) (cond (decide (p.1 = (7 : Int))) ((0 ≤ (0 : Int)) ∧ ((0 : Int) < (inp.length : Int)) ∧ (Sm TValue (nth (t := TValue) inp (0 : Int))) ∧ (∀ r_18_5 : (TValue).D, r_18_5 = (M.valueOf (M.notOf (M.truthOf (nth (t := TValue) inp (0 : Int))))) → K (.data TValue r_18_5) [])) ((0 ≤ (0 : Int)) ∧ ((0 : Int) < (inp.length : Int)) ∧ (∀ r_19_6 : (TValue).D, r_19_6 = (M.valueOf (M.bool (decide ((nth (t := TValue) inp (0 : Int)).1 = (0 : Int))))) → K (.data TValue r_19_6) []))))))))) := by kernel_rfl
theorem con139_ok : ConOk P 139 c139 := by
  refine con_okR (fn := f139) (code := bodyOf f139) (tab_ok tab_check cmp_check) consOk139 mixed func139 rfl rfl fun args hp K h0 => ?_
  obtain ⟨a0, a1, a2, rfl, rfl, h1⟩ := args3_elim h0
  obtain ⟨p, rfl, h2⟩ := withD_elim h1
  obtain ⟨row, rfl, h3⟩ := withD_elim h2
  obtain ⟨inp, rfl, h4⟩ := withB_elim h3
  obtain ⟨h_p, h_row, h_inp, p0, p1, p2, hK⟩ := h4
  have h : ok (F.impl_Part_value p row inp) (fun r => K (.data TValue r) []) := ok_of_eq (F.impl_Part_value_eq p row inp h_p h_row h_inp p0 p1 p2) (hK _ rfl)
  refine ⟨⟨show (3 : Nat) ≤ 103 by decide, show (3 : Nat) ≤ 1000000 by decide⟩, ann139, (L139 p row inp), (.dat TValue), (no_loops (by kernel_rfl)), ?_⟩
  · rw [vc139 p row inp K]
    exact (ok_cond h (fun b_1 h => (have h := ok_ret h; h)) (fun b_1 h => (ok_cond h (fun b_2 h => ⟨(ok_guard h).1, have h := (ok_guard h).2; ⟨(ok_guard h).1, have h := (ok_guard h).2; (have h := ok_ret h; h)⟩⟩) (fun b_2 h => (ok_cond h (fun b_5 h => ⟨(Int.natCast_nonneg 0), ⟨(ok_guard h).1, have g_6 := (ok_guard h).1; have h := (ok_guard h).2; ⟨(Int.natCast_nonneg 1), ⟨(ok_guard h).1, have g_7 := (ok_guard h).1; have h := (ok_guard h).2; ⟨(Int.natCast_nonneg 0), ⟨g_6, (ok_cond h (fun b_8 h => ⟨(Int.natCast_nonneg 1), ⟨g_7, (ok_cond h (fun b_9 h => ⟨(show Sm TValue _ from ⟨trivial, (show Sm (Ty.pair TInt (Ty.pair Ty.str Ty.unit)) _ from ⟨trivial, (show Sm (Ty.pair Ty.str Ty.unit) _ from ⟨(Nat.le_of_ble_eq_true rfl), trivial⟩)⟩)⟩), (ok_cond h (fun b_10 h => (have h := ok_ret h; h)) (fun b_10 h => (have h := ok_ret h; h)))⟩) (fun b_9 h => (have h := ok_ret h; h)))⟩⟩) (fun b_8 h => (have h := ok_ret h; h)))⟩⟩⟩⟩⟩⟩) (fun b_5 h => (ok_cond h (fun b_11 h => ⟨(Int.natCast_nonneg 0), ⟨(ok_guard h).1, have h := (ok_guard h).2; ⟨(Int.natCast_nonneg 1), ⟨(ok_guard h).1, have h := (ok_guard h).2; ⟨(sm_nth h_inp (0 : Int)), ⟨(sm_nth h_inp (1 : Int)), (fun r_12_9 e_r_12_9 => have h := ok_let h r_12_9 e_r_12_9; (have h := ok_ret h; h))⟩⟩⟩⟩⟩⟩) (fun b_11 h => (ok_cond h (fun b_14 h => ⟨(Int.natCast_nonneg 0), ⟨(ok_guard h).1, have h := (ok_guard h).2; ⟨(Int.natCast_nonneg 1), ⟨(ok_guard h).1, have h := (ok_guard h).2; ⟨(sm_nth h_inp (0 : Int)), ⟨(sm_nth h_inp (1 : Int)), (fun r_14_9 e_r_14_9 => have h := ok_let h r_14_9 e_r_14_9; (have h := ok_ret h; h))⟩⟩⟩⟩⟩⟩) (fun b_14 h => (ok_cond h (fun b_17 h => ⟨(Int.natCast_nonneg 0), ⟨(ok_guard h).1, have h := (ok_guard h).2; ⟨(Int.natCast_nonneg 1), ⟨(ok_guard h).1, have h := (ok_guard h).2; ⟨(sm_nth h_inp (0 : Int)), ⟨(sm_nth h_inp (1 : Int)), (fun r_16_9 e_r_16_9 => have h := ok_let h r_16_9 e_r_16_9; (have h := ok_ret h; h))⟩⟩⟩⟩⟩⟩) (fun b_17 h => (ok_cond h (fun b_20 h => ⟨(Int.natCast_nonneg 0), ⟨(ok_guard h).1, have h := (ok_guard h).2; ⟨(sm_nth h_inp (0 : Int)), (fun r_18_5 e_r_18_5 => have h := ok_let h r_18_5 e_r_18_5; (have h := ok_ret h; h))⟩⟩⟩) (fun b_20 h => ⟨(Int.natCast_nonneg 0), ⟨(ok_guard h).1, have h := (ok_guard h).2; (fun r_19_6 e_r_19_6 => have h := ok_let h r_19_6 e_r_19_6; (have h := ok_ret h; h))⟩⟩))))))))))))))

/-! 104: loop.example/tablehouse/impl.exprValue -/
def c104 : Con := ⟨[.dat (Ty.sl TValue), .dat (Ty.sl TPart)], fun args hp K => args2 (fun a0 a1 => withD (Ty.sl TValue) a0 fun row => withD (Ty.sl TPart) a1 fun e => (Sm (Ty.sl TValue) row) ∧ (Sm (Ty.sl TPart) e) ∧ (M.exprSafe row.length e) ∧ (∀ r : (TValue).D, r = (M.exprValue row e) → K (.data TValue r) [])) args hp, .plain⟩
def cons104 : Cons := [(133, c133), (139, c139)]
def inl104 : List (Nat × Inl) := []
@[reducible] def C104 : Ctx := ⟨tab, fun t => memN t cmps, cons104, 37, inl104, 0, false⟩
theorem consOk104 : ConsOk P C104 := by
  refine consOk_cons (enter_ok (fn := f133) func133 (by kernel_rfl) rfl) con133_ok ?_
  refine consOk_cons (enter_ok (fn := f139) func139 (by kernel_rfl) rfl) con139_ok ?_
  exact consOk_nil
def ann104 : Nat → List Dir
  | 0 => [.keep [0, 1, 4]]
  | 1 => [.keep [0, 1, 4, 5]]
  | 2 => [.keep [0, 4, 5, 10, 11, 12]]
  | 3 => [.keep [0, 4, 5, 10, 11, 12, 13]]
  | 4 => [.fixRow 7 TPart, .keep [0, 4, 5, 7, 10, 11, 12]]
  | 5 => [.keep [0, 4, 5, 7, 8, 10, 11, 12]]
  | 6 => [.fixRow 9 TValue, .keep [0, 4, 5, 8, 9, 10, 11, 12]]
  | 7 => [.keep [0, 4, 5, 10, 11, 12]]
  | 8 => [.keep [0, 4, 5, 10, 11, 12]]
  | 9 => [.keep [4]]
  | 100000 => [.keep [4, 5]]
  | _ => []
@[reducible] def LP104_0 (row : (List (TValue).D)) (e : (List (TPart).D)) (m : Nat) (st_ : St) (K : X → St → Prop) : Prop := (True) ∧ LoopE (t := TPart) (fun (i0 : Int) (v0 : (List (TValue).D)) => (⟨[(0, .data (Ty.sl TValue) row), (4, .ptr 4 0), (5, .own 5 none), (10, .data (Ty.sl TPart) e), (11, .data TInt (e.length : Int)), (12, .data TInt i0)], [(4, .box [.data TInt (0 : Int), .data TInt (0 : Int), .data Ty.str (⟨#[]⟩ : ByteArray)]), (5, .arr false TValue v0)]⟩ : St)) e (F.impl_exprValue_l0 row e) (fun v0 : (List (TValue).D) => True) (outD (fun v0 : (List (TValue).D) => True → K (.exit 0) (⟨[(4, .ptr 4 0), (5, .own 5 none)], [(4, .box [.data TInt (0 : Int), .data TInt (0 : Int), .data Ty.str (⟨#[]⟩ : ByteArray)]), (5, .arr false TValue v0)]⟩ : St)) (fun _ => False)) m st_
def L104 (row : (List (TValue).D)) (e : (List (TPart).D)) : Loops := fun id m st_ K => match id with
  | 0 => LP104_0 row e m st_ K
  | _ => False
theorem vc104 (row : (List (TValue).D)) (e : (List (TPart).D)) (K : AV → Hp → Prop) : awp C104 (L104 row e) ann104 (bodyOf f104) ⟨argEnv 0 [.data (Ty.sl TValue) row, .data (Ty.sl TPart) e], []⟩ (outK tab false f104.results.toList (hasBox []) (resK (.dat TValue) K)) =
  ((∃ m_, (True) ∧ LoopE (t := TPart) (fun (i0 : Int) (v0 : (List (TValue).D)) => (⟨[(0, .data (Ty.sl TValue) row), (4, .ptr 4 0), (5, .own 5 none), (10, .data (Ty.sl TPart) e), (11, .data TInt (e.length : Int)), (12, .data TInt i0)], [(4, .box [.data TInt (0 : Int), .data TInt (0 : Int), .data Ty.str (⟨#[]⟩ : ByteArray)]), (5, .arr false TValue v0)]⟩ : St)) e (F.impl_exprValue_l0 row e) (fun v0 : (List (TValue).D) => True) (outD (fun v0 : (List (TValue).D) => True → (0 ≤ (0 : Int)) ∧ ((0 : Int) < (v0.length : Int)) ∧ K (.data TValue (nth (t := TValue) v0 (0 : Int))) []) (fun _ => False)) m_ (⟨[(0, .data (Ty.sl TValue) row), (4, .ptr 4 0), (5, .own 5 none), (10, .data (Ty.sl TPart) e), (11, .data TInt (e.length : Int)), (12, .data TInt (0 : Int))], [(4, .box [.data TInt (0 : Int), .data TInt (0 : Int), .data Ty.str (⟨#[]⟩ : ByteArray)]), (5, .arr false TValue [])]⟩ : St))) := by kernel_rfl
@[reducible] def S104l0_0 (row : (List (TValue).D)) (e : (List (TPart).D))  (i0 : Int) (v0 : (List (TValue).D)) (m : Nat) (K : X → St → Prop) : Prop := (Sm TPart (nth (t := TPart) e i0)) ∧ (Sm (Ty.sl TValue) row) ∧ (Sm (Ty.sl TValue) (cutList v0 (some (wrap64 ((v0.length : Int) - (M.takes (nth (t := TPart) e i0))), (v0.length : Int))))) ∧ (((cutList v0 (some (wrap64 ((v0.length : Int) - (M.takes (nth (t := TPart) e i0))), (v0.length : Int)))).length : Int) = M.takes (nth (t := TPart) e i0)) ∧ (M.colIn (nth (t := TPart) e i0) row.length) ∧ (1 ≤ (nth (t := TPart) e i0).1 ∧ (nth (t := TPart) e i0).1 ≤ 8) ∧ (∀ r_6_5 : (TValue).D, r_6_5 = (M.partValue (nth (t := TPart) e i0) row (cutList v0 (some (wrap64 ((v0.length : Int) - (M.takes (nth (t := TPart) e i0))), (v0.length : Int))))) → (0 ≤ (0 : Int)) ∧ ((0 : Int) ≤ wrap64 ((v0.length : Int) - (M.takes (nth (t := TPart) e i0)))) ∧ (wrap64 ((v0.length : Int) - (M.takes (nth (t := TPart) e i0))) ≤ (v0.length : Int)) ∧ (wrap64 ((v0.length : Int) - (M.takes (nth (t := TPart) e i0))) = wrap64 ((v0.length : Int) - (M.takes (nth (t := TPart) e i0)))) ∧ ((0 : Int) = 0) ∧ (((wrap64 ((v0.length : Int) - (M.takes (nth (t := TPart) e i0)))).toNat + [r_6_5].length) * 32 ≤ lim) ∧ (∃ m_, m_ < m ∧ (L104 row e) 0 m_ (⟨[(0, .data (Ty.sl TValue) row), (4, .ptr 4 0), (5, .own 5 none), (10, .data (Ty.sl TPart) e), (11, .data TInt (e.length : Int)), (12, .data TInt (wrap64 (i0 + (1 : Int))))], [(4, .box [.data TInt (0 : Int), .data TInt (0 : Int), .data Ty.str (⟨#[]⟩ : ByteArray)]), (5, .arr false TValue (v0.take (wrap64 ((v0.length : Int) - (M.takes (nth (t := TPart) e i0)))).toNat ++ [r_6_5]))]⟩ : St) K))
theorem lvc104_0 (row : (List (TValue).D)) (e : (List (TPart).D))  (i0 : Int) (v0 : (List (TValue).D)) (m : Nat) (K : X → St → Prop) : awp C104 (L104 row e) ann104 (loopAt (bodyOf f104) 0) (⟨[(0, .data (Ty.sl TValue) row), (4, .ptr 4 0), (5, .own 5 none), (10, .data (Ty.sl TPart) e), (11, .data TInt (e.length : Int)), (12, .data TInt i0)], [(4, .box [.data TInt (0 : Int), .data TInt (0 : Int), .data Ty.str (⟨#[]⟩ : ByteArray)]), (5, .arr false TValue v0)]⟩ : St) (thenW (fun s' => ∃ m', m' < m ∧ (L104 row e) 0 m' s' K) (exitN 0 (ann104 (behind 0)) K)) =
  (cond (decide (i0 < (e.length : Int))) ((0 ≤ i0) ∧ (i0 < (e.length : Int)) ∧ (Sm TPart (nth (t := TPart) e i0)) ∧ (0 ≤ wrap64 ((v0.length : Int) - (M.takes (nth (t := TPart) e i0)))) ∧ (wrap64 ((v0.length : Int) - (M.takes (nth (t := TPart) e i0))) ≤ (v0.length : Int)) ∧ ((v0.length : Int) ≤ (v0.length : Int)) ∧ ((v0.length : Int) = (v0.length : Int)) ∧ ((S104l0_0  row e i0 v0 m K)) ∧ ((S104l0_0  row e i0 v0 m K))) (K (.exit 0) (⟨[(4, .ptr 4 0), (5, .own 5 none)], [(4, .box [.data TInt (0 : Int), .data TInt (0 : Int), .data Ty.str (⟨#[]⟩ : ByteArray)]), (5, .arr false TValue v0)]⟩ : St))) := by kernel_rfl
theorem con104_ok : ConOk P 104 c104 := by
  refine con_okR (fn := f104) (code := bodyOf f104) (tab_ok tab_check cmp_check) consOk104 mixed func104 rfl rfl fun args hp K h0 => ?_
  obtain ⟨a0, a1, rfl, rfl, h1⟩ := args2_elim h0
  obtain ⟨row, rfl, h2⟩ := withD_elim h1
  obtain ⟨e, rfl, h3⟩ := withD_elim h2
  obtain ⟨h_row, h_e, p0, hK⟩ := h3
  have h : ok (F.impl_exprValue row e) (fun r => K (.data TValue r) []) := ok_of_eq (F.impl_exprValue_eq row e h_row h_e p0) (hK _ rfl)
  refine ⟨⟨show (2 : Nat) ≤ 37 by decide, show (2 : Nat) ≤ 1000000 by decide⟩, ann104, (L104 row e), (.dat TValue), (loopsN1 (i0 := 0) (by kernel_rfl) ?_), ?_⟩
  · clear h
    intro m_ s_ K_ h
    obtain ⟨hc0, i0, v0, rfl, hl0, rfl, hv0, h⟩ := (show LP104_0 row e m_ s_ K_ from h)
    rw [lvc104_0 row e i0 v0 _ K_]
    exact (loopE_step (t := TPart) hl0 h (fun ht0 h => ⟨hl0, ⟨ht0, ⟨(sm_nth h_e i0), ⟨(ok_guard h).1, have h := (ok_guard h).2; ⟨(ok_guard h).1, have g_34 := (ok_guard h).1; have h := (ok_guard h).2; ⟨(Int.le_refl _), ⟨rfl, ((fun (g1_0 : Sm (Ty.sl TValue) (cutList v0 (some (wrap64 ((v0.length : Int) - (M.takes (nth (t := TPart) e i0))), (v0.length : Int))))) => (fun (g1_1 : ((cutList v0 (some (wrap64 ((v0.length : Int) - (M.takes (nth (t := TPart) e i0))), (v0.length : Int)))).length : Int) = M.takes (nth (t := TPart) e i0)) => (fun (g1_2 : M.colIn (nth (t := TPart) e i0) row.length) => (fun (g1_3 : 1 ≤ (nth (t := TPart) e i0).1 ∧ (nth (t := TPart) e i0).1 ≤ 8) => ⟨⟨(sm_nth h_e i0), ⟨h_row, ⟨g1_0, have g_35 := g1_0; ⟨g1_1, have g_36 := g1_1; ⟨g1_2, have g_37 := g1_2; ⟨g1_3, have g_38 := g1_3; (fun r_6_5 e_r_6_5 => (have h := (ok_let (ok_guard (ok_guard (ok_guard (ok_guard h).2).2).2).2 r_6_5 e_r_6_5); ⟨(Int.natCast_nonneg 0), ⟨(ok_guard h).1, have h := (ok_guard h).2; ⟨g_34, ⟨rfl, ⟨rfl, ⟨(ok_guard h).1, have h := (ok_guard h).2; (loopE_next (t := TPart) (fun m hm => (show LP104_0 row e m _ _ from ⟨hc0, hm⟩)) (v0.take (wrap64 ((v0.length : Int) - (M.takes (nth (t := TPart) e i0)))).toNat ++ [r_6_5]) rfl hl0 ht0 (sm_len h_e) trivial (have h := ok_ret h; h))⟩⟩⟩⟩⟩⟩))⟩⟩⟩⟩⟩⟩, ⟨(sm_nth h_e i0), ⟨h_row, ⟨g1_0, have g_41 := g1_0; ⟨g1_1, have g_42 := g1_1; ⟨g1_2, have g_43 := g1_2; ⟨g1_3, have g_44 := g1_3; (fun r_6_5 e_r_6_5 => (have h := (ok_let (ok_guard (ok_guard (ok_guard (ok_guard h).2).2).2).2 r_6_5 e_r_6_5); ⟨(Int.natCast_nonneg 0), ⟨(ok_guard h).1, have h := (ok_guard h).2; ⟨g_34, ⟨rfl, ⟨rfl, ⟨(ok_guard h).1, have h := (ok_guard h).2; (loopE_next (t := TPart) (fun m hm => (show LP104_0 row e m _ _ from ⟨hc0, hm⟩)) (v0.take (wrap64 ((v0.length : Int) - (M.takes (nth (t := TPart) e i0)))).toNat ++ [r_6_5]) rfl hl0 ht0 (sm_len h_e) trivial (have h := ok_ret h; h))⟩⟩⟩⟩⟩⟩))⟩⟩⟩⟩⟩⟩⟩) (ok_guard (ok_guard (ok_guard (ok_guard h).2).2).2).1) (ok_guard (ok_guard (ok_guard h).2).2).1) (ok_guard (ok_guard h).2).1) (ok_guard h).1)⟩⟩⟩⟩⟩⟩⟩) (fun h => (h trivial)))
  · rw [vc104 row e K]
    exact (loopE_start (t := TPart) (fun m hm => ⟨trivial, hm⟩) [] rfl trivial (ok_then h (fun v0 h hv0 => ⟨(Int.natCast_nonneg 0), ⟨(ok_guard h).1, have h := (ok_guard h).2; (have h := ok_ret h; h)⟩⟩) (fun _ h => h.elim)))

/-! 59: loop.example/tablehouse/impl.exprHolds -/
def c59 : Con := ⟨[.dat (Ty.sl TValue), .dat (Ty.sl TPart)], fun args hp K => args2 (fun a0 a1 => withD (Ty.sl TValue) a0 fun row => withD (Ty.sl TPart) a1 fun e => (Sm (Ty.sl TValue) row) ∧ (Sm (Ty.sl TPart) e) ∧ (M.exprSafe row.length e) ∧ K (.data Ty.bool (M.holds row e)) []) args hp, .plain⟩
def cons59 : Cons := [(104, c104), (105, c105)]
def inl59 : List (Nat × Inl) := []
@[reducible] def C59 : Ctx := ⟨tab, fun t => memN t cmps, cons59, 10, inl59, 0, false⟩
theorem consOk59 : ConsOk P C59 := by
  refine consOk_cons (enter_ok (fn := f104) func104 (by kernel_rfl) rfl) con104_ok ?_
  refine consOk_cons (enter_ok (fn := f105) func105 (by kernel_rfl) rfl) con105_ok ?_
  exact consOk_nil
def ann59 : Nat → List Dir
  | 0 => [.keep [0, 1]]
  | 1 => [.keep [4]]
  | _ => []
def L59 (row : (List (TValue).D)) (e : (List (TPart).D)) : Loops := fun id m st_ K => match id with
  | _ => False
theorem vc59 (row : (List (TValue).D)) (e : (List (TPart).D)) (K : AV → Hp → Prop) : awp C59 (L59 row e) ann59 (bodyOf f59) ⟨argEnv 0 [.data (Ty.sl TValue) row, .data (Ty.sl TPart) e], []⟩ (outK tab false f59.results.toList (hasBox []) (resK (.dat Ty.bool) K)) =
  ((Sm (Ty.sl TValue) row) ∧ (Sm (Ty.sl TPart) e) ∧ (M.exprSafe row.length e) ∧ (∀ r_1_2 : (TValue).D, r_1_2 = (M.exprValue row e) → (∀ r_1_3 : (TValue).D, r_1_3 = (M.valueOf (1 : Int)) → K (.data Ty.bool (Ty.beq TValue r_1_2 r_1_3)) []))) := by kernel_rfl
theorem con59_ok : ConOk P 59 c59 := by
  refine con_okR (fn := f59) (code := bodyOf f59) (tab_ok tab_check cmp_check) consOk59 mixed func59 rfl rfl fun args hp K h0 => ?_
  obtain ⟨a0, a1, rfl, rfl, h1⟩ := args2_elim h0
  obtain ⟨row, rfl, h2⟩ := withD_elim h1
  obtain ⟨e, rfl, h3⟩ := withD_elim h2
  obtain ⟨h_row, h_e, p0, hK⟩ := h3
  have h : ok (F.impl_exprHolds row e) (fun r => K (.data Ty.bool r) []) := ok_of_eq (F.impl_exprHolds_eq row e h_row h_e p0) hK
  refine ⟨⟨show (2 : Nat) ≤ 10 by decide, show (2 : Nat) ≤ 1000000 by decide⟩, ann59, (L59 row e), (.dat Ty.bool), (no_loops (by kernel_rfl)), ?_⟩
  · rw [vc59 row e K]
    exact ⟨h_row, ⟨h_e, ⟨p0, (fun r_1_2 e_r_1_2 => have h := ok_let h r_1_2 e_r_1_2; (fun r_1_3 e_r_1_3 => have h := ok_let h r_1_3 e_r_1_3; (have h := ok_ret h; h)))⟩⟩⟩

/-! 58: loop.example/tablehouse/impl.TablesSeen$1 -/
def c58 : Con := ⟨[.dat (Ty.sl TValue), .any], fun args hp K => args2 (fun a0 a1 => withD (Ty.sl TValue) a0 fun r => withA TGuard a1 fun g => (Sm (Ty.sl TValue) r) ∧ (Sm TGuard g) ∧ (M.exprSafe r.length g.2.1) ∧ K (.data Ty.bool (M.holds r g.2.1)) []) args hp, .bor⟩
def cons58 : Cons := [(59, c59)]
def inl58 : List (Nat × Inl) := []
@[reducible] def C58 : Ctx := ⟨tab, fun t => memN t cmps, cons58, 8, inl58, 0, false⟩
theorem consOk58 : ConsOk P C58 := by
  refine consOk_cons (enter_ok (fn := f59) func59 (by kernel_rfl) rfl) con59_ok ?_
  exact consOk_nil
def ann58 : Nat → List Dir
  | 0 => [.keep [0, 1]]
  | 1 => [.keep [3]]
  | _ => []
def L58 (r : (List (TValue).D)) (g : (TGuard).D) : Loops := fun id m st_ K => match id with
  | _ => False
theorem vc58 (r : (List (TValue).D)) (g : (TGuard).D) (K : AV → Hp → Prop) : awp C58 (L58 r g) ann58 (bodyOf f58) ⟨argEnv 0 [.data (Ty.sl TValue) r, .adr TGuard g], []⟩ (outK tab false f58.results.toList (hasBox []) (resK (.dat Ty.bool) K)) =
  ((Sm (Ty.sl TValue) r) ∧ (Sm (Ty.sl TPart) g.2.1) ∧ (M.exprSafe r.length g.2.1) ∧ K (.data Ty.bool (M.holds r g.2.1)) []) := by kernel_rfl
theorem con58_ok : ConOk P 58 c58 := by
  refine con_okR (fn := f58) (code := bodyOf f58) (tab_ok tab_check cmp_check) consOk58 mixed func58 rfl rfl fun args hp K h0 => ?_
  obtain ⟨a0, a1, rfl, rfl, h1⟩ := args2_elim h0
  obtain ⟨r, rfl, h2⟩ := withD_elim h1
  obtain ⟨g, rfl, h3⟩ := withA_elim h2
  obtain ⟨h_r, h_g, p0, hK⟩ := h3
  have h : ok (F.impl_TablesSeen_1 r g) (fun r => K (.data Ty.bool r) []) := ok_of_eq (F.impl_TablesSeen_1_eq r g h_r h_g p0) hK
  refine ⟨⟨show (2 : Nat) ≤ 8 by decide, show (2 : Nat) ≤ 1000000 by decide⟩, ann58, (L58 r g), (.dat Ty.bool), (no_loops (by kernel_rfl)), ?_⟩
  · rw [vc58 r g K]
    exact ⟨h_r, ⟨h_g.2.1, ⟨p0, (have h := ok_ret h; h)⟩⟩⟩

/-! 57: loop.example/tablehouse/impl.kept -/
def c57 : Con := ⟨[.dat (Ty.sl (Ty.sl TValue)), .any], fun args hp K => args2 (fun a0 a1 => withD (Ty.sl (Ty.sl TValue)) a0 fun rows => withF 58 a1 (caps1 (fun b1_0 => withA TGuard b1_0 fun g => (Sm (Ty.sl (Ty.sl TValue)) rows) ∧ (Sm TGuard g) ∧ (∀ r ∈ rows, M.exprSafe r.length g.2.1) ∧ (∀ r : (List (List (TValue).D)), r = (List.filter (fun r => M.holds r g.2.1) rows) → K (.clp 0 (r.length : Int)) [(0, .arr true (Ty.sl TValue) r)])))) args hp, .bor⟩
def cons57 : Cons := [(58, c58), (103, c103)]
def inl57 : List (Nat × Inl) := []
@[reducible] def C57 : Ctx := ⟨tab, fun t => memN t cmps, cons57, 24, inl57, 0, false⟩
theorem consOk57 : ConsOk P C57 := by
  refine consOk_cons (enter_ok (fn := f58) func58 (by kernel_rfl) rfl) con58_ok ?_
  refine consOk_cons (enter_ok (fn := f103) func103 (by kernel_rfl) rfl) con103_ok ?_
  exact consOk_nil
def ann57 : Nat → List Dir
  | 0 => [.keep [0, 1]]
  | 1 => [.keep [0, 1, 5]]
  | 2 => [.keep [1, 5, 8, 9, 10]]
  | 3 => [.keep [1, 5, 8, 9, 10, 11]]
  | 4 => [.keep [1, 5, 7, 8, 9, 10]]
  | 5 => [.keep [1, 5, 7, 8, 9, 10, 16]]
  | 6 => [.keep [1, 5, 8, 9, 10]]
  | 7 => [.keep [1, 5, 8, 9, 10]]
  | 8 => [.keep [4]]
  | 100000 => [.keep [5]]
  | _ => []
@[reducible] def LP57_0 (rows : (List (List (TValue).D))) (g : (TGuard).D) (m : Nat) (st_ : St) (K : X → St → Prop) : Prop := (True) ∧ LoopE (t := (Ty.sl TValue)) (fun (i0 : Int) (v0 : (List (List (TValue).D))) => (⟨[(1, .fn 58 [.adr TGuard g]), (5, .own 5 none), (8, .data (Ty.sl (Ty.sl TValue)) rows), (9, .data TInt (rows.length : Int)), (10, .data TInt i0)], [(5, .arr false (Ty.sl TValue) v0)]⟩ : St)) rows (F.impl_kept_l0 rows g) (fun v0 : (List (List (TValue).D)) => True) (outD (fun v0 : (List (List (TValue).D)) => True → K (.exit 0) (⟨[(5, .own 5 none)], [(5, .arr false (Ty.sl TValue) v0)]⟩ : St)) (fun _ => False)) m st_
def L57 (rows : (List (List (TValue).D))) (g : (TGuard).D) : Loops := fun id m st_ K => match id with
  | 0 => LP57_0 rows g m st_ K
  | _ => False
theorem vc57 (rows : (List (List (TValue).D))) (g : (TGuard).D) (K : AV → Hp → Prop) : awp C57 (L57 rows g) ann57 (bodyOf f57) ⟨argEnv 0 [.data (Ty.sl (Ty.sl TValue)) rows, .fn 58 [.adr TGuard g]], []⟩ (outK tab false f57.results.toList (hasBox []) (resK .raw K)) =
  ((∃ m_, (True) ∧ LoopE (t := (Ty.sl TValue)) (fun (i0 : Int) (v0 : (List (List (TValue).D))) => (⟨[(1, .fn 58 [.adr TGuard g]), (5, .own 5 none), (8, .data (Ty.sl (Ty.sl TValue)) rows), (9, .data TInt (rows.length : Int)), (10, .data TInt i0)], [(5, .arr false (Ty.sl TValue) v0)]⟩ : St)) rows (F.impl_kept_l0 rows g) (fun v0 : (List (List (TValue).D)) => True) (outD (fun v0 : (List (List (TValue).D)) => True → (Sm (Ty.sl (Ty.sl TValue)) v0) ∧ (∀ r_8_1 : (List (List (TValue).D)), r_8_1 = (v0) → K (.clp 0 ((r_8_1.take (r_8_1.length : Int).toNat).length : Int)) [(0, .arr true (Ty.sl TValue) (r_8_1.take (r_8_1.length : Int).toNat))])) (fun _ => False)) m_ (⟨[(1, .fn 58 [.adr TGuard g]), (5, .own 5 none), (8, .data (Ty.sl (Ty.sl TValue)) rows), (9, .data TInt (rows.length : Int)), (10, .data TInt (0 : Int))], [(5, .arr false (Ty.sl TValue) [])]⟩ : St))) := by kernel_rfl
theorem lvc57_0 (rows : (List (List (TValue).D))) (g : (TGuard).D)  (i0 : Int) (v0 : (List (List (TValue).D))) (m : Nat) (K : X → St → Prop) : awp C57 (L57 rows g) ann57 (loopAt (bodyOf f57) 0) (⟨[(1, .fn 58 [.adr TGuard g]), (5, .own 5 none), (8, .data (Ty.sl (Ty.sl TValue)) rows), (9, .data TInt (rows.length : Int)), (10, .data TInt i0)], [(5, .arr false (Ty.sl TValue) v0)]⟩ : St) (thenW (fun s' => ∃ m', m' < m ∧ (L57 rows g) 0 m' s' K) (exitN 0 (ann57 (behind 0)) K)) =
  (cond (decide (i0 < (rows.length : Int))) ((0 ≤ i0) ∧ (i0 < (rows.length : Int)) ∧ (Sm (Ty.sl TValue) (nth (t := (Ty.sl TValue)) rows i0)) ∧ (Sm TGuard g) ∧ (M.exprSafe (nth (t := (Ty.sl TValue)) rows i0).length g.2.1) ∧ cond (M.holds (nth (t := (Ty.sl TValue)) rows i0) g.2.1) (((v0.length + [(nth (t := (Ty.sl TValue)) rows i0)].length) * 24 ≤ lim) ∧ (∃ m_, m_ < m ∧ (L57 rows g) 0 m_ (⟨[(1, .fn 58 [.adr TGuard g]), (5, .own 5 none), (8, .data (Ty.sl (Ty.sl TValue)) rows), (9, .data TInt (rows.length : Int)), (10, .data TInt (wrap64 (i0 + (1 : Int))))], [(5, .arr false (Ty.sl TValue) (v0 ++ [(nth (t := (Ty.sl TValue)) rows i0)]))]⟩ : St) K)) ((∃ m_, m_ < m ∧ (L57 rows g) 0 m_ (⟨[(1, .fn 58 [.adr TGuard g]), (5, .own 5 none), (8, .data (Ty.sl (Ty.sl TValue)) rows), (9, .data TInt (rows.length : Int)), (10, .data TInt (wrap64 (i0 + (1 : Int))))], [(5, .arr false (Ty.sl TValue) v0)]⟩ : St) K))) (K (.exit 0) (⟨[(5, .own 5 none)], [(5, .arr false (Ty.sl TValue) v0)]⟩ : St))) := by kernel_rfl
theorem con57_ok : ConOk P 57 c57 := by
  refine con_okR (fn := f57) (code := bodyOf f57) (tab_ok tab_check cmp_check) consOk57 mixed func57 rfl rfl fun args hp K h0 => ?_
  obtain ⟨a0, a1, rfl, rfl, h1⟩ := args2_elim h0
  obtain ⟨rows, rfl, h2⟩ := withD_elim h1
  obtain ⟨cs1, rfl, h3⟩ := withF_elim h2
  obtain ⟨b1_0, rfl, h4⟩ := caps1_elim h3
  obtain ⟨g, rfl, h5⟩ := withA_elim h4
  obtain ⟨h_rows, h_g, p0, hK⟩ := h5
  have h : ok (F.impl_kept rows g) (fun r => K (.clp 0 (r.length : Int)) [(0, .arr true (Ty.sl TValue) r)]) := ok_of_eq (F.impl_kept_eq rows g h_rows h_g p0) (hK _ rfl)
  refine ⟨⟨show (2 : Nat) ≤ 24 by decide, show (2 : Nat) ≤ 1000000 by decide⟩, ann57, (L57 rows g), .raw, (loopsN1 (i0 := 0) (by kernel_rfl) ?_), ?_⟩
  · clear h
    intro m_ s_ K_ h
    obtain ⟨hc0, i0, v0, rfl, hl0, rfl, hv0, h⟩ := (show LP57_0 rows g m_ s_ K_ from h)
    rw [lvc57_0 rows g i0 v0 _ K_]
    exact (loopE_step (t := (Ty.sl TValue)) hl0 h (fun ht0 h => ⟨hl0, ⟨ht0, ⟨(sm_nth h_rows i0), ⟨h_g, ⟨(ok_guard h).1, have h := (ok_guard h).2; (ok_cond h (fun b_18 h => ⟨(ok_guard h).1, have h := (ok_guard h).2; (loopE_next (t := (Ty.sl TValue)) (fun m hm => (show LP57_0 rows g m _ _ from ⟨hc0, hm⟩)) (v0 ++ [(nth (t := (Ty.sl TValue)) rows i0)]) rfl hl0 ht0 (sm_len h_rows) trivial (have h := ok_ret h; h))⟩) (fun b_18 h => (loopE_next (t := (Ty.sl TValue)) (fun m hm => (show LP57_0 rows g m _ _ from ⟨hc0, hm⟩)) v0 rfl hl0 ht0 (sm_len h_rows) trivial (have h := ok_ret h; h))))⟩⟩⟩⟩⟩) (fun h => (h trivial)))
  · rw [vc57 rows g K]
    exact (loopE_start (t := (Ty.sl TValue)) (fun m hm => ⟨trivial, hm⟩) [] rfl trivial (ok_then h (fun v0 h hv0 => ⟨(ok_guard h).1, have h := (ok_guard h).2; (fun r_8_1 e_r_8_1 => have h := ok_let h r_8_1 e_r_8_1; (have h := ok_ret h; h))⟩) (fun _ h => h.elim)))

/-! 22: loop.example/tablehouse/impl.TablesSeen -/
def c22 : Con := ⟨[.dat (Ty.sl TTable), .dat (Ty.sl TGuard)], fun args hp K => args2 (fun a0 a1 => withD (Ty.sl TTable) a0 fun tables => withD (Ty.sl TGuard) a1 fun guards => (Sm (Ty.sl TTable) tables) ∧ (Sm (Ty.sl TGuard) guards) ∧ (∀ r : (List (TTable).D), r = (M.tablesSeen tables guards) → K (.clp 0 (r.length : Int)) [(0, .arr true TTable r)])) args hp, .bor⟩
def cons22 : Cons := [(55, c55), (56, c56), (57, c57), (58, c58)]
def inl22 : List (Nat × Inl) := []
@[reducible] def C22 : Ctx := ⟨tab, fun t => memN t cmps, cons22, 35, inl22, 0, true⟩
theorem consOk22 : ConsOk P C22 := by
  refine consOk_cons (enter_ok (fn := f55) func55 (by kernel_rfl) rfl) con55_ok ?_
  refine consOk_cons (enter_ok (fn := f56) func56 (by kernel_rfl) rfl) con56_ok ?_
  refine consOk_cons (enter_ok (fn := f57) func57 (by kernel_rfl) rfl) con57_ok ?_
  refine consOk_cons (enter_ok (fn := f58) func58 (by kernel_rfl) rfl) con58_ok ?_
  exact consOk_nil
def ann22 : Nat → List Dir
  | 0 => [.keep [0, 1]]
  | 1 => [.keep [0, 1, 11]]
  | 2 => [.clip 4, .keep [4]]
  | 3 => [.keep [1, 5]]
  | 4 => [.keep [5, 14, 15, 16]]
  | 5 => [.keep [5, 14, 15, 16, 17]]
  | 6 => [.fixRow 7 TGuard, .keep [5, 7, 14, 15, 16]]
  | 7 => [.keep [5, 14, 15, 16]]
  | 8 => [.keep [5, 14, 15, 16]]
  | 9 => [.keep [4]]
  | 100000 => [.keep [5]]
  | _ => []
@[reducible] def LP22_0 (tables : (List (TTable).D)) (guards : (List (TGuard).D)) (m : Nat) (st_ : St) (K : X → St → Prop) : Prop := ∃ c0_0 : Int, (True) ∧ LoopE (t := TGuard) (fun (i0 : Int) (v0 : (List (TTable).D)) => (⟨[(5, .clp 13 c0_0), (14, .data (Ty.sl TGuard) guards), (15, .data TInt (guards.length : Int)), (16, .data TInt i0)], [(13, .arr true TTable v0)]⟩ : St)) guards (F.impl_TablesSeen_l0 tables guards c0_0) (fun v0 : (List (TTable).D) => True) (outD (fun v0 : (List (TTable).D) => True → K (.exit 0) (⟨[(5, .clp 13 c0_0)], [(13, .arr true TTable v0)]⟩ : St)) (fun _ => False)) m st_
def L22 (tables : (List (TTable).D)) (guards : (List (TGuard).D)) : Loops := fun id m st_ K => match id with
  | 0 => LP22_0 tables guards m st_ K
  | _ => False
theorem vc22 (tables : (List (TTable).D)) (guards : (List (TGuard).D)) (K : AV → Hp → Prop) : awp C22 (L22 tables guards) ann22 (bodyOf f22) ⟨argEnv 0 [.data (Ty.sl TTable) tables, .data (Ty.sl TGuard) guards], []⟩ (outK tab true f22.results.toList (hasBox []) (resK .raw K)) =
  ((Sm (Ty.sl TTable) tables) ∧ (Sm (Ty.sl TGuard) guards) ∧ cond (!(M.guardsOk tables guards)) (K (.clp 0 (([] : List TTable.D).length : Int)) [(0, .arr true TTable ([] : List TTable.D))]) ((Sm (Ty.sl TTable) tables) ∧ (∀ r_3_1 : (List (TTable).D), r_3_1 = (tables) → (∃ m_, ∃ c0_0 : Int, (True) ∧ LoopE (t := TGuard) (fun (i0 : Int) (v0 : (List (TTable).D)) => (⟨[(5, .clp 13 c0_0), (14, .data (Ty.sl TGuard) guards), (15, .data TInt (guards.length : Int)), (16, .data TInt i0)], [(13, .arr true TTable v0)]⟩ : St)) guards (F.impl_TablesSeen_l0 tables guards c0_0) (fun v0 : (List (TTable).D) => True) (outD (fun v0 : (List (TTable).D) => True → K (.clp 0 ((v0.take c0_0.toNat).length : Int)) [(0, .arr true TTable (v0.take c0_0.toNat))]) (fun _ => False)) m_ (⟨[(5, .clp 13 (r_3_1.length : Int)), (14, .data (Ty.sl TGuard) guards), (15, .data TInt (guards.length : Int)), (16, .data TInt (0 : Int))], [(13, .arr true TTable r_3_1)]⟩ : St))))) := by kernel_rfl
theorem lvc22_0 (tables : (List (TTable).D)) (guards : (List (TGuard).D)) (c0_0 : Int) (i0 : Int) (v0 : (List (TTable).D)) (m : Nat) (K : X → St → Prop) : awp C22 (L22 tables guards) ann22 (loopAt (bodyOf f22) 0) (⟨[(5, .clp 13 c0_0), (14, .data (Ty.sl TGuard) guards), (15, .data TInt (guards.length : Int)), (16, .data TInt i0)], [(13, .arr true TTable v0)]⟩ : St) (thenW (fun s' => ∃ m', m' < m ∧ (L22 tables guards) 0 m' s' K) (exitN 0 (ann22 (behind 0)) K)) =
  (cond (decide (i0 < (guards.length : Int))) ((0 ≤ i0) ∧ (i0 < (guards.length : Int)) ∧ (0 ≤ (nth (t := TGuard) guards i0).1) ∧ ((nth (t := TGuard) guards i0).1 < c0_0) ∧ (Sm (Ty.sl (Ty.sl TValue)) (((nth (t := TTable) v0 ((nth (t := TGuard) guards i0).1)).2).1)) ∧ (Sm TGuard (nth (t := TGuard) guards i0)) ∧ (∀ r ∈ (((nth (t := TTable) v0 ((nth (t := TGuard) guards i0).1)).2).1), M.exprSafe r.length (nth (t := TGuard) guards i0).2.1) ∧ (∀ r_7_10 : (List (List (TValue).D)), r_7_10 = (List.filter (fun r => M.holds r (nth (t := TGuard) guards i0).2.1) (((nth (t := TTable) v0 ((nth (t := TGuard) guards i0).1)).2).1)) → (0 ≤ (nth (t := TGuard) guards i0).1) ∧ ((nth (t := TGuard) guards i0).1 < c0_0) ∧ (let y_7_13 : (List (TTable).D) := (v0.set ((nth (t := TGuard) guards i0).1).toNat ((nth (t := TTable) v0 ((nth (t := TGuard) guards i0).1)).1, ((cutList r_7_10 (some ((0 : Int), (r_7_10.length : Int)))), ()))); (∃ m_, m_ < m ∧ (L22 tables guards) 0 m_ (⟨[(5, .clp 13 c0_0), (14, .data (Ty.sl TGuard) guards), (15, .data TInt (guards.length : Int)), (16, .data TInt (wrap64 (i0 + (1 : Int))))], [(13, .arr true TTable y_7_13)]⟩ : St) K)))) (K (.exit 0) (⟨[(5, .clp 13 c0_0)], [(13, .arr true TTable v0)]⟩ : St))) := by kernel_rfl
theorem con22_ok : ConOk P 22 c22 := by
  refine con_okR (fn := f22) (code := bodyOf f22) (tab_ok tab_check cmp_check) consOk22 mixed func22 rfl rfl fun args hp K h0 => ?_
  obtain ⟨a0, a1, rfl, rfl, h1⟩ := args2_elim h0
  obtain ⟨tables, rfl, h2⟩ := withD_elim h1
  obtain ⟨guards, rfl, h3⟩ := withD_elim h2
  obtain ⟨h_tables, h_guards, hK⟩ := h3
  have h : ok (F.impl_TablesSeen tables guards) (fun r => K (.clp 0 (r.length : Int)) [(0, .arr true TTable r)]) := ok_of_eq (F.impl_TablesSeen_eq tables guards h_tables h_guards) (hK _ rfl)
  refine ⟨⟨show (2 : Nat) ≤ 35 by decide, show (2 : Nat) ≤ 1000000 by decide⟩, ann22, (L22 tables guards), .raw, (loopsN1 (i0 := 0) (by kernel_rfl) ?_), ?_⟩
  · clear h
    intro m_ s_ K_ h
    obtain ⟨c0_0, hc0, i0, v0, rfl, hl0, rfl, hv0, h⟩ := (show LP22_0 tables guards m_ s_ K_ from h)
    rw [lvc22_0 tables guards c0_0 i0 v0 _ K_]
    exact (loopE_step (t := TGuard) hl0 h (fun ht0 h => ⟨hl0, ⟨ht0, ⟨(ok_guard h).1, have g_21 := (ok_guard h).1; have h := (ok_guard h).2; ⟨(ok_guard h).1, have g_22 := (ok_guard h).1; have h := (ok_guard h).2; ⟨(ok_guard h).1, have h := (ok_guard h).2; ⟨(sm_nth h_guards i0), ⟨(ok_guard h).1, have h := (ok_guard h).2; (fun r_7_10 e_r_7_10 => have h := ok_let h r_7_10 e_r_7_10; ⟨g_21, ⟨g_22, (let y_7_13 : (List (TTable).D) := (v0.set ((nth (t := TGuard) guards i0).1).toNat ((nth (t := TTable) v0 ((nth (t := TGuard) guards i0).1)).1, ((cutList r_7_10 (some ((0 : Int), (r_7_10.length : Int)))), ()))); have h := ok_let h y_7_13 rfl; (loopE_next (t := TGuard) (fun m hm => (show LP22_0 tables guards m _ _ from ⟨c0_0, hc0, hm⟩)) y_7_13 rfl hl0 ht0 (sm_len h_guards) trivial (have h := ok_ret h; h)))⟩⟩)⟩⟩⟩⟩⟩⟩⟩) (fun h => (h trivial)))
  · rw [vc22 tables guards K]
    exact ⟨h_tables, ⟨h_guards, (ok_cond h (fun b_1 h => (have h := ok_ret h; h)) (fun b_1 h => ⟨h_tables, (fun r_3_1 e_r_3_1 => have h := ok_let h r_3_1 e_r_3_1; (loopE_start (t := TGuard) (fun m hm => ⟨(r_3_1.length : Int), trivial, hm⟩) r_3_1 rfl trivial (ok_then h (fun v0 h hv0 => (have h := ok_ret h; h)) (fun _ h => h.elim))))⟩))⟩⟩

/-! 124: loop.example/tablehouse/laws.eqPart -/
def c124 : Con := ⟨[.dat TPart, .dat TPart], fun args hp K => args2 (fun a0 a1 => withD TPart a0 fun x => withD TPart a1 fun y => (Sm TPart x) ∧ (Sm TPart y) ∧ (x = y) ∧ K (.data Ty.bool (true)) []) args hp, .plain⟩
def cons124 : Cons := [(116, c116)]
def inl124 : List (Nat × Inl) := []
@[reducible] def C124 : Ctx := ⟨tab, fun t => memN t cmps, cons124, 21, inl124, 0, false⟩
theorem consOk124 : ConsOk P C124 := by
  refine consOk_cons (enter_ok (fn := f116) func116 (by kernel_rfl) rfl) con116_ok ?_
  exact consOk_nil
def ann124 : Nat → List Dir
  | 0 => [.fixRow 2 TPart, .fixRow 3 TPart, .keep [2, 3]]
  | 1 => [.keep [2, 3, 9]]
  | 2 => [.keep [4]]
  | 3 => [.keep [2, 3, 14]]
  | 4 => [.keep [4]]
  | 5 => [.keep [20]]
  | 6 => [.keep [4]]
  | 7 => [.keep [4]]
  | _ => []
def L124 (x : (TPart).D) (y : (TPart).D) : Loops := fun id m st_ K => match id with
  | _ => False
theorem vc124 (x : (TPart).D) (y : (TPart).D) (K : AV → Hp → Prop) : awp C124 (L124 x y) ann124 (bodyOf f124) ⟨argEnv 0 [.data TPart x, .data TPart y], []⟩ (outK tab false f124.results.toList (hasBox []) (resK (.dat Ty.bool) K)) =
  (cond (!decide (x.1 = y.1)) (K (.data Ty.bool false) []) (cond (!decide (x.2.1 = y.2.1)) (K (.data Ty.bool false) []) ((Sm TValue x.2.2.1) ∧ (Sm TValue y.2.2.1) ∧ (x.2.2.1 = y.2.2.1) ∧ cond (!(true)) (K (.data Ty.bool false) []) (K (.data Ty.bool true) [])))) := by kernel_rfl
theorem con124_ok : ConOk P 124 c124 := by
  refine con_okR (fn := f124) (code := bodyOf f124) (tab_ok tab_check cmp_check) consOk124 mixed func124 rfl rfl fun args hp K h0 => ?_
  obtain ⟨a0, a1, rfl, rfl, h1⟩ := args2_elim h0
  obtain ⟨x, rfl, h2⟩ := withD_elim h1
  obtain ⟨y, rfl, h3⟩ := withD_elim h2
  obtain ⟨h_x, h_y, p0, hK⟩ := h3
  have h : ok (F.laws_eqPart x y) (fun r => K (.data Ty.bool r) []) := ok_of_eq (F.laws_eqPart_eq x y h_x h_y p0) hK
  refine ⟨⟨show (2 : Nat) ≤ 21 by decide, show (2 : Nat) ≤ 1000000 by decide⟩, ann124, (L124 x y), (.dat Ty.bool), (no_loops (by kernel_rfl)), ?_⟩
  · rw [vc124 x y K]
    exact (ok_cond h (fun b_1 h => (have h := ok_ret h; h)) (fun b_1 h => (ok_cond h (fun b_2 h => (have h := ok_ret h; h)) (fun b_2 h => ⟨h_x.2.2.1, ⟨h_y.2.2.1, ⟨(ok_guard h).1, have h := (ok_guard h).2; (ok_cond h (fun b_4 h => (have h := ok_ret h; h)) (fun b_4 h => (have h := ok_ret h; h)))⟩⟩⟩))))

/-! 91: loop.example/tablehouse/laws.eqPartS -/
def c91 : Con := ⟨[.dat (Ty.sl TPart), .dat (Ty.sl TPart)], fun args hp K => args2 (fun a0 a1 => withD (Ty.sl TPart) a0 fun x => withD (Ty.sl TPart) a1 fun y => (Sm (Ty.sl TPart) x) ∧ (Sm (Ty.sl TPart) y) ∧ (x = y) ∧ K (.data Ty.bool (true)) []) args hp, .bor⟩
def cons91 : Cons := [(124, c124)]
def inl91 : List (Nat × Inl) := []
@[reducible] def C91 : Ctx := ⟨tab, fun t => memN t cmps, cons91, 27, inl91, 0, false⟩
theorem consOk91 : ConsOk P C91 := by
  refine consOk_cons (enter_ok (fn := f124) func124 (by kernel_rfl) rfl) con124_ok ?_
  exact consOk_nil
def ann91 : Nat → List Dir
  | 0 => [.keep [0, 1]]
  | 1 => [.keep [0, 1, 10]]
  | 2 => [.keep [4]]
  | 3 => [.keep [0, 1, 5]]
  | 4 => [.keep [0, 1, 5, 14]]
  | 5 => [.keep [0, 1, 5]]
  | 6 => [.keep [0, 1, 5, 26]]
  | 7 => [.keep [4]]
  | 8 => [.keep [4]]
  | 100000 => [.keep []]
  | _ => []
@[reducible] def LP91_0 (x : (List (TPart).D)) (y : (List (TPart).D)) (m : Nat) (st_ : St) (K : X → St → Prop) : Prop := (True) ∧ LoopI (fun (i0 : Int) (v0 : Unit) => (⟨[(0, .data (Ty.sl TPart) x), (1, .data (Ty.sl TPart) y), (5, .data TInt i0)], []⟩ : St)) (0 : Int) (x.length : Int) (F.laws_eqPartS_l0 x y) (fun v0 : Unit => True) (outD (fun v0 : Unit => True → K (.exit 0) (⟨[], []⟩ : St)) (fun q0 : Unit => K .ret (⟨[(4, .data Ty.bool false)], []⟩ : St))) m st_
def L91 (x : (List (TPart).D)) (y : (List (TPart).D)) : Loops := fun id m st_ K => match id with
  | 0 => LP91_0 x y m st_ K
  | _ => False
theorem vc91 (x : (List (TPart).D)) (y : (List (TPart).D)) (K : AV → Hp → Prop) : awp C91 (L91 x y) ann91 (bodyOf f91) ⟨argEnv 0 [.data (Ty.sl TPart) x, .data (Ty.sl TPart) y], []⟩ (outK tab false f91.results.toList (hasBox []) (resK (.dat Ty.bool) K)) =
  (cond (!decide ((x.length : Int) = (y.length : Int))) (K (.data Ty.bool false) []) ((∃ m_, (True) ∧ LoopI (fun (i0 : Int) (v0 : Unit) => (⟨[(0, .data (Ty.sl TPart) x), (1, .data (Ty.sl TPart) y), (5, .data TInt i0)], []⟩ : St)) (0 : Int) (x.length : Int) (F.laws_eqPartS_l0 x y) (fun v0 : Unit => True) (outD (fun v0 : Unit => True → K (.data Ty.bool true) []) (fun q0 : Unit => K (.data Ty.bool false) [])) m_ (⟨[(0, .data (Ty.sl TPart) x), (1, .data (Ty.sl TPart) y), (5, .data TInt (0 : Int))], []⟩ : St)))) := by kernel_rfl
theorem lvc91_0 (x : (List (TPart).D)) (y : (List (TPart).D))  (i0 : Int) (v0 : Unit) (m : Nat) (K : X → St → Prop) : awp C91 (L91 x y) ann91 (loopAt (bodyOf f91) 0) (⟨[(0, .data (Ty.sl TPart) x), (1, .data (Ty.sl TPart) y), (5, .data TInt i0)], []⟩ : St) (thenW (fun s' => ∃ m', m' < m ∧ (L91 x y) 0 m' s' K) (exitN 0 (ann91 (behind 0)) K)) =
  (cond (decide (i0 < (x.length : Int))) ((0 ≤ i0) ∧ (i0 < (x.length : Int)) ∧ (0 ≤ i0) ∧ (i0 < (y.length : Int)) ∧ (Sm TPart (nth (t := TPart) x i0)) ∧ (Sm TPart (nth (t := TPart) y i0)) ∧ ((nth (t := TPart) x i0) = (nth (t := TPart) y i0)) ∧ cond (!(true)) (K .ret (⟨[(4, .data Ty.bool false)], []⟩ : St)) ((∃ m_, m_ < m ∧ (L91 x y) 0 m_ (⟨[(0, .data (Ty.sl TPart) x), (1, .data (Ty.sl TPart) y), (5, .data TInt (wrap64 (i0 + (1 : Int))))], []⟩ : St) K))) (K (.exit 0) (⟨[], []⟩ : St))) := by kernel_rfl
theorem con91_ok : ConOk P 91 c91 := by
  refine con_okR (fn := f91) (code := bodyOf f91) (tab_ok tab_check cmp_check) consOk91 mixed func91 rfl rfl fun args hp K h0 => ?_
  obtain ⟨a0, a1, rfl, rfl, h1⟩ := args2_elim h0
  obtain ⟨x, rfl, h2⟩ := withD_elim h1
  obtain ⟨y, rfl, h3⟩ := withD_elim h2
  obtain ⟨h_x, h_y, p0, hK⟩ := h3
  have h : ok (F.laws_eqPartS x y) (fun r => K (.data Ty.bool r) []) := ok_of_eq (F.laws_eqPartS_eq x y h_x h_y p0) hK
  refine ⟨⟨show (2 : Nat) ≤ 27 by decide, show (2 : Nat) ≤ 1000000 by decide⟩, ann91, (L91 x y), (.dat Ty.bool), (loopsN1 (i0 := 0) (by kernel_rfl) ?_), ?_⟩
  · clear h
    intro m_ s_ K_ h
    obtain ⟨hc0, i0, v0, rfl, hl0, rfl, hv0, h⟩ := (show LP91_0 x y m_ s_ K_ from h)
    rw [lvc91_0 x y i0 v0 _ K_]
    exact (loopI_step h (fun ht0 h => ⟨hl0, ⟨ht0, ⟨hl0, ⟨(ok_guard h).1, have h := (ok_guard h).2; ⟨(sm_nth h_x i0), ⟨(sm_nth h_y i0), ⟨(ok_guard h).1, have h := (ok_guard h).2; (ok_cond h (fun b_16 h => (have h := ok_ret h; h)) (fun b_16 h => (loopI_next (fun m hm => (show LP91_0 x y m _ _ from ⟨hc0, hm⟩)) () rfl hl0 low0 ht0 (sm_len h_x) trivial (have h := ok_ret h; h))))⟩⟩⟩⟩⟩⟩⟩) (fun h => (h trivial)))
  · rw [vc91 x y K]
    exact (ok_cond h (fun b_1 h => (have h := ok_ret h; h)) (fun b_1 h => (loopI_start (fun m hm => ⟨trivial, hm⟩) (0 : Int) () rfl (Int.natCast_nonneg 0) trivial (ok_then h (fun v0 h hv0 => (have h := ok_ret h; h)) (fun q0 h => (have h := ok_ret h; h))))))

/-! 60: loop.example/tablehouse/laws.eqGuard -/
def c60 : Con := ⟨[.dat TGuard, .dat TGuard], fun args hp K => args2 (fun a0 a1 => withD TGuard a0 fun x => withD TGuard a1 fun y => (Sm TGuard x) ∧ (Sm TGuard y) ∧ (x = y) ∧ K (.data Ty.bool (true)) []) args hp, .plain⟩
def cons60 : Cons := [(91, c91)]
def inl60 : List (Nat × Inl) := []
@[reducible] def C60 : Ctx := ⟨tab, fun t => memN t cmps, cons60, 16, inl60, 0, false⟩
theorem consOk60 : ConsOk P C60 := by
  refine consOk_cons (enter_ok (fn := f91) func91 (by kernel_rfl) rfl) con91_ok ?_
  exact consOk_nil
def ann60 : Nat → List Dir
  | 0 => [.fixRow 2 TGuard, .fixRow 3 TGuard, .keep [2, 3]]
  | 1 => [.keep [2, 3, 9]]
  | 2 => [.keep [4]]
  | 3 => [.keep [15]]
  | 4 => [.keep [4]]
  | 5 => [.keep [4]]
  | _ => []
def L60 (x : (TGuard).D) (y : (TGuard).D) : Loops := fun id m st_ K => match id with
  | _ => False
theorem vc60 (x : (TGuard).D) (y : (TGuard).D) (K : AV → Hp → Prop) : awp C60 (L60 x y) ann60 (bodyOf f60) ⟨argEnv 0 [.data TGuard x, .data TGuard y], []⟩ (outK tab false f60.results.toList (hasBox []) (resK (.dat Ty.bool) K)) =
  (cond (!decide (x.1 = y.1)) (K (.data Ty.bool false) []) ((Sm (Ty.sl TPart) x.2.1) ∧ (Sm (Ty.sl TPart) y.2.1) ∧ (x.2.1 = y.2.1) ∧ cond (!(true)) (K (.data Ty.bool false) []) (K (.data Ty.bool true) []))) := by kernel_rfl
theorem con60_ok : ConOk P 60 c60 := by
  refine con_okR (fn := f60) (code := bodyOf f60) (tab_ok tab_check cmp_check) consOk60 mixed func60 rfl rfl fun args hp K h0 => ?_
  obtain ⟨a0, a1, rfl, rfl, h1⟩ := args2_elim h0
  obtain ⟨x, rfl, h2⟩ := withD_elim h1
  obtain ⟨y, rfl, h3⟩ := withD_elim h2
  obtain ⟨h_x, h_y, p0, hK⟩ := h3
  have h : ok (F.laws_eqGuard x y) (fun r => K (.data Ty.bool r) []) := ok_of_eq (F.laws_eqGuard_eq x y h_x h_y p0) hK
  refine ⟨⟨show (2 : Nat) ≤ 16 by decide, show (2 : Nat) ≤ 1000000 by decide⟩, ann60, (L60 x y), (.dat Ty.bool), (no_loops (by kernel_rfl)), ?_⟩
  · rw [vc60 x y K]
    exact (ok_cond h (fun b_1 h => (have h := ok_ret h; h)) (fun b_1 h => ⟨h_x.2.1, ⟨h_y.2.1, ⟨(ok_guard h).1, have h := (ok_guard h).2; (ok_cond h (fun b_3 h => (have h := ok_ret h; h)) (fun b_3 h => (have h := ok_ret h; h)))⟩⟩⟩))

/-! 23: loop.example/tablehouse/laws.eqGuardS -/
def c23 : Con := ⟨[.dat (Ty.sl TGuard), .dat (Ty.sl TGuard)], fun args hp K => args2 (fun a0 a1 => withD (Ty.sl TGuard) a0 fun x => withD (Ty.sl TGuard) a1 fun y => (Sm (Ty.sl TGuard) x) ∧ (Sm (Ty.sl TGuard) y) ∧ (x = y) ∧ K (.data Ty.bool (true)) []) args hp, .bor⟩
def cons23 : Cons := [(60, c60)]
def inl23 : List (Nat × Inl) := []
@[reducible] def C23 : Ctx := ⟨tab, fun t => memN t cmps, cons23, 27, inl23, 0, false⟩
theorem consOk23 : ConsOk P C23 := by
  refine consOk_cons (enter_ok (fn := f60) func60 (by kernel_rfl) rfl) con60_ok ?_
  exact consOk_nil
def ann23 : Nat → List Dir
  | 0 => [.keep [0, 1]]
  | 1 => [.keep [0, 1, 10]]
  | 2 => [.keep [4]]
  | 3 => [.keep [0, 1, 5]]
  | 4 => [.keep [0, 1, 5, 14]]
  | 5 => [.keep [0, 1, 5]]
  | 6 => [.keep [0, 1, 5, 26]]
  | 7 => [.keep [4]]
  | 8 => [.keep [4]]
  | 100000 => [.keep []]
  | _ => []
@[reducible] def LP23_0 (x : (List (TGuard).D)) (y : (List (TGuard).D)) (m : Nat) (st_ : St) (K : X → St → Prop) : Prop := (True) ∧ LoopI (fun (i0 : Int) (v0 : Unit) => (⟨[(0, .data (Ty.sl TGuard) x), (1, .data (Ty.sl TGuard) y), (5, .data TInt i0)], []⟩ : St)) (0 : Int) (x.length : Int) (F.laws_eqGuardS_l0 x y) (fun v0 : Unit => True) (outD (fun v0 : Unit => True → K (.exit 0) (⟨[], []⟩ : St)) (fun q0 : Unit => K .ret (⟨[(4, .data Ty.bool false)], []⟩ : St))) m st_
def L23 (x : (List (TGuard).D)) (y : (List (TGuard).D)) : Loops := fun id m st_ K => match id with
  | 0 => LP23_0 x y m st_ K
  | _ => False
theorem vc23 (x : (List (TGuard).D)) (y : (List (TGuard).D)) (K : AV → Hp → Prop) : awp C23 (L23 x y) ann23 (bodyOf f23) ⟨argEnv 0 [.data (Ty.sl TGuard) x, .data (Ty.sl TGuard) y], []⟩ (outK tab false f23.results.toList (hasBox []) (resK (.dat Ty.bool) K)) =
  (cond (!decide ((x.length : Int) = (y.length : Int))) (K (.data Ty.bool false) []) ((∃ m_, (True) ∧ LoopI (fun (i0 : Int) (v0 : Unit) => (⟨[(0, .data (Ty.sl TGuard) x), (1, .data (Ty.sl TGuard) y), (5, .data TInt i0)], []⟩ : St)) (0 : Int) (x.length : Int) (F.laws_eqGuardS_l0 x y) (fun v0 : Unit => True) (outD (fun v0 : Unit => True → K (.data Ty.bool true) []) (fun q0 : Unit => K (.data Ty.bool false) [])) m_ (⟨[(0, .data (Ty.sl TGuard) x), (1, .data (Ty.sl TGuard) y), (5, .data TInt (0 : Int))], []⟩ : St)))) := by kernel_rfl
theorem lvc23_0 (x : (List (TGuard).D)) (y : (List (TGuard).D))  (i0 : Int) (v0 : Unit) (m : Nat) (K : X → St → Prop) : awp C23 (L23 x y) ann23 (loopAt (bodyOf f23) 0) (⟨[(0, .data (Ty.sl TGuard) x), (1, .data (Ty.sl TGuard) y), (5, .data TInt i0)], []⟩ : St) (thenW (fun s' => ∃ m', m' < m ∧ (L23 x y) 0 m' s' K) (exitN 0 (ann23 (behind 0)) K)) =
  (cond (decide (i0 < (x.length : Int))) ((0 ≤ i0) ∧ (i0 < (x.length : Int)) ∧ (0 ≤ i0) ∧ (i0 < (y.length : Int)) ∧ (Sm TGuard (nth (t := TGuard) x i0)) ∧ (Sm TGuard (nth (t := TGuard) y i0)) ∧ ((nth (t := TGuard) x i0) = (nth (t := TGuard) y i0)) ∧ cond (!(true)) (K .ret (⟨[(4, .data Ty.bool false)], []⟩ : St)) ((∃ m_, m_ < m ∧ (L23 x y) 0 m_ (⟨[(0, .data (Ty.sl TGuard) x), (1, .data (Ty.sl TGuard) y), (5, .data TInt (wrap64 (i0 + (1 : Int))))], []⟩ : St) K))) (K (.exit 0) (⟨[], []⟩ : St))) := by kernel_rfl
theorem con23_ok : ConOk P 23 c23 := by
  refine con_okR (fn := f23) (code := bodyOf f23) (tab_ok tab_check cmp_check) consOk23 mixed func23 rfl rfl fun args hp K h0 => ?_
  obtain ⟨a0, a1, rfl, rfl, h1⟩ := args2_elim h0
  obtain ⟨x, rfl, h2⟩ := withD_elim h1
  obtain ⟨y, rfl, h3⟩ := withD_elim h2
  obtain ⟨h_x, h_y, p0, hK⟩ := h3
  have h : ok (F.laws_eqGuardS x y) (fun r => K (.data Ty.bool r) []) := ok_of_eq (F.laws_eqGuardS_eq x y h_x h_y p0) hK
  refine ⟨⟨show (2 : Nat) ≤ 27 by decide, show (2 : Nat) ≤ 1000000 by decide⟩, ann23, (L23 x y), (.dat Ty.bool), (loopsN1 (i0 := 0) (by kernel_rfl) ?_), ?_⟩
  · clear h
    intro m_ s_ K_ h
    obtain ⟨hc0, i0, v0, rfl, hl0, rfl, hv0, h⟩ := (show LP23_0 x y m_ s_ K_ from h)
    rw [lvc23_0 x y i0 v0 _ K_]
    exact (loopI_step h (fun ht0 h => ⟨hl0, ⟨ht0, ⟨hl0, ⟨(ok_guard h).1, have h := (ok_guard h).2; ⟨(sm_nth h_x i0), ⟨(sm_nth h_y i0), ⟨(ok_guard h).1, have h := (ok_guard h).2; (ok_cond h (fun b_16 h => (have h := ok_ret h; h)) (fun b_16 h => (loopI_next (fun m hm => (show LP23_0 x y m _ _ from ⟨hc0, hm⟩)) () rfl hl0 low0 ht0 (sm_len h_x) trivial (have h := ok_ret h; h))))⟩⟩⟩⟩⟩⟩⟩) (fun h => (h trivial)))
  · rw [vc23 x y K]
    exact (ok_cond h (fun b_1 h => (have h := ok_ret h; h)) (fun b_1 h => (loopI_start (fun m hm => ⟨trivial, hm⟩) (0 : Int) () rfl (Int.natCast_nonneg 0) trivial (ok_then h (fun v0 h hv0 => (have h := ok_ret h; h)) (fun q0 h => (have h := ok_ret h; h))))))

/-! 46: loop.example/tablehouse/laws.markPartS -/
def c46 : Con := ⟨[.dat TInt], fun args hp K => hpN 1000000 false TPart (fun x => args2 (fun a0 a1 => withC 1000000 (x.length : Int) a0 (withD TInt a1 fun k => (Ln (Ty.sl TPart) x) ∧ (0 ≤ k) ∧ (k + (M.count (Ty.sl TPart) x : Int) ≤ M.big) ∧ (∀ r : (List (TPart).D) × Int, r = ((M.mark (Ty.sl TPart) x k, k + (M.count (Ty.sl TPart) x : Int))) → K (.data TInt r.2) [(1000000, .arr false TPart r.1)]))) args []) hp, .io⟩
def cons46 : Cons := [(94, c94)]
def inl46 : List (Nat × Inl) := []
@[reducible] def C46 : Ctx := ⟨tab, fun t => memN t cmps, cons46, 52, inl46, 0, false⟩
theorem consOk46 : ConsOk P C46 := by
  refine consOk_cons (enter_ok (fn := f94) func94 (by kernel_rfl) rfl) con94_ok ?_
  exact consOk_nil
def ann46 : Nat → List Dir
  | 0 => [.keep [0, 1]]
  | 1 => [.keep [0, 1, 5]]
  | 2 => [.keep [0, 1, 5, 9]]
  | 3 => [.keep [0, 1, 5]]
  | 4 => [.keep [0, 1, 5]]
  | 5 => [.keep [0, 1, 5]]
  | 6 => [.keep [0, 1, 5]]
  | 7 => [.keep [0, 1, 5]]
  | 8 => [.keep [0, 1, 5]]
  | 9 => [.keep [0, 1, 5]]
  | 10 => [.keep [0, 1, 5]]
  | 11 => [.keep [0, 1, 5]]
  | 12 => [.keep [0, 1, 5]]
  | 13 => [.keep [0, 1, 5]]
  | 14 => [.keep [4]]
  | 100000 => [.keep [1]]
  | _ => []
@[reducible] def LP46_0 (x : (List (TPart).D)) (k : Int) (m : Nat) (st_ : St) (K : X → St → Prop) : Prop := (True) ∧ LoopI (fun (i0 : Int) (v0 : Int × (List (TPart).D)) => (⟨[(0, .clp 1000000 (x.length : Int)), (1, .data TInt v0.1), (5, .data TInt i0)], [(1000000, .arr false TPart v0.2)]⟩ : St)) (0 : Int) (x.length : Int) (F.laws_markPartS_l0 x k) (fun v0 : Int × (List (TPart).D) => True) (outD (fun v0 : Int × (List (TPart).D) => True → K (.exit 0) (⟨[(1, .data TInt v0.1)], [(1000000, .arr false TPart v0.2)]⟩ : St)) (fun _ => False)) m st_
def L46 (x : (List (TPart).D)) (k : Int) : Loops := fun id m st_ K => match id with
  | 0 => LP46_0 x k m st_ K
  | _ => False
theorem vc46 (x : (List (TPart).D)) (k : Int) (K : AV → Hp → Prop) : awp C46 (L46 x k) ann46 (bodyOf f46) ⟨argEnv 0 [.clp 1000000 (x.length : Int), .data TInt k], [(1000000, .arr false TPart x)]⟩ (outK tab false f46.results.toList (hasBox [(1000000, .arr false TPart x)]) (resK .raw K)) =
  ((∃ m_, (True) ∧ LoopI (fun (i0 : Int) (v0 : Int × (List (TPart).D)) => (⟨[(0, .clp 1000000 (x.length : Int)), (1, .data TInt v0.1), (5, .data TInt i0)], [(1000000, .arr false TPart v0.2)]⟩ : St)) (0 : Int) (x.length : Int) (F.laws_markPartS_l0 x k) (fun v0 : Int × (List (TPart).D) => True) (outD (fun v0 : Int × (List (TPart).D) => True → K (.data TInt v0.1) [(1000000, .arr false TPart v0.2)]) (fun _ => False)) m_ (⟨[(0, .clp 1000000 (x.length : Int)), (1, .data TInt k), (5, .data TInt (0 : Int))], [(1000000, .arr false TPart x)]⟩ : St))) := by kernel_rfl
theorem lvc46_0 (x : (List (TPart).D)) (k : Int)  (i0 : Int) (v0 : Int × (List (TPart).D)) (m : Nat) (K : X → St → Prop) : awp C46 (L46 x k) ann46 (loopAt (bodyOf f46) 0) (⟨[(0, .clp 1000000 (x.length : Int)), (1, .data TInt v0.1), (5, .data TInt i0)], [(1000000, .arr false TPart v0.2)]⟩ : St) (thenW (fun s' => ∃ m', m' < m ∧ (L46 x k) 0 m' s' K) (exitN 0 (ann46 (behind 0)) K)) =
  (cond (decide (i0 < (x.length : Int))) ((0 ≤ i0) ∧ (i0 < (x.length : Int)) ∧ (0 ≤ i0) ∧ (i0 < (x.length : Int)) ∧ (let y_6_5 : (List (TPart).D) := ((v0.2.set i0.toNat (v0.1, (nth (t := TPart) v0.2 i0).2)).set i0.toNat ((nth (t := TPart) (v0.2.set i0.toNat (v0.1, (nth (t := TPart) v0.2 i0).2)) i0).1, (wrap64 (v0.1 + (1 : Int)), ((nth (t := TPart) (v0.2.set i0.toNat (v0.1, (nth (t := TPart) v0.2 i0).2)) i0).2).2))); (0 ≤ i0) ∧ (i0 < (x.length : Int)) ∧ (let y_8_6 : (List (TPart).D) := (y_6_5.set i0.toNat ((nth (t := TPart) y_6_5 i0).1, (((nth (t := TPart) y_6_5 i0).2).1, ((wrap64 (wrap64 (v0.1 + (1 : Int)) + (1 : Int)), ((((nth (t := TPart) y_6_5 i0).2).2).1).2), ())))); (0 ≤ i0) ∧ (i0 < (x.length : Int)) ∧ (let y_10_6 : (List (TPart).D) := (y_8_6.set i0.toNat ((nth (t := TPart) y_8_6 i0).1, (((nth (t := TPart) y_8_6 i0).2).1, ((((((nth (t := TPart) y_8_6 i0).2).2).1).1, (wrap64 (wrap64 (wrap64 (v0.1 + (1 : Int)) + (1 : Int)) + (1 : Int)), (((((nth (t := TPart) y_8_6 i0).2).2).1).2).2)), ())))); ((wrap64 (wrap64 (wrap64 (wrap64 (v0.1 + (1 : Int)) + (1 : Int)) + (1 : Int)) + (1 : Int))) ≤ M.big) ∧ (∀ r_12_3 : ByteArray, r_12_3 = (M.markText (wrap64 (wrap64 (wrap64 (wrap64 (v0.1 + (1 : Int)) + (1 : Int)) + (1 : Int)) + (1 : Int)))) → (0 ≤ i0) ∧ (i0 < (x.length : Int)) ∧ (let y_12_7 : (List (TPart).D) := (y_10_6.set i0.toNat ((nth (t := TPart) y_10_6 i0).1, (((nth (t := TPart) y_10_6 i0).2).1, ((((((nth (t := TPart) y_10_6 i0).2).2).1).1, ((((((nth (t := TPart) y_10_6 i0).2).2).1).2).1, (r_12_3, ()))), ())))); (∃ m_, m_ < m ∧ (L46 x k) 0 m_ (⟨[(0, .clp 1000000 (x.length : Int)), (1, .data TInt (wrap64 (wrap64 (wrap64 (wrap64 (wrap64 (v0.1 + (1 : Int)) + (1 : Int)) + (1 : Int)) + (1 : Int)) + (1 : Int)))), (5, .data TInt (wrap64 (i0 + (1 : Int))))], [(1000000, .arr false TPart y_12_7)]⟩ : St) K))))))) (K (.exit 0) (⟨[(1, .data TInt v0.1)], [(1000000, .arr false TPart v0.2)]⟩ : St))) := by kernel_rfl
theorem con46_ok : ConOk P 46 c46 := by
  refine con_okR (fn := f46) (code := bodyOf f46) (tab_ok tab_check cmp_check) consOk46 mixed func46 rfl rfl fun args hp K h0 => ?_
  unfold c46 at h0
  dsimp only at h0
  obtain ⟨x, rfl, h00⟩ := hpN_elim (n := 1000000) (d := false) (t := TPart) h0
  obtain ⟨a0, a1, rfl, _, h1⟩ := args2_elim h00
  obtain ⟨rfl, h2⟩ := withC_elim h1
  obtain ⟨k, rfl, h3⟩ := withD_elim h2
  obtain ⟨h_x, p0, p1, hK⟩ := h3
  have h : ok (F.laws_markPartS x k) (fun r => K (.data TInt r.2) [(1000000, .arr false TPart r.1)]) := ok_of_eq (F.laws_markPartS_eq x k h_x p0 p1) (hK _ rfl)
  refine ⟨⟨show (2 : Nat) ≤ 52 by decide, show (2 : Nat) ≤ 1000000 by decide⟩, ann46, (L46 x k), .raw, (loopsN1 (i0 := 0) (by kernel_rfl) ?_), ?_⟩
  · clear h
    intro m_ s_ K_ h
    obtain ⟨hc0, i0, v0, rfl, hl0, rfl, hv0, h⟩ := (show LP46_0 x k m_ s_ K_ from h)
    rw [lvc46_0 x k i0 v0 _ K_]
    exact (loopI_step h (fun ht0 h => ⟨hl0, ⟨ht0, ⟨hl0, ⟨ht0, (let y_6_5 : (List (TPart).D) := ((v0.2.set i0.toNat (v0.1, (nth (t := TPart) v0.2 i0).2)).set i0.toNat ((nth (t := TPart) (v0.2.set i0.toNat (v0.1, (nth (t := TPart) v0.2 i0).2)) i0).1, (wrap64 (v0.1 + (1 : Int)), ((nth (t := TPart) (v0.2.set i0.toNat (v0.1, (nth (t := TPart) v0.2 i0).2)) i0).2).2))); have h := ok_let h y_6_5 rfl; ⟨hl0, ⟨ht0, (let y_8_6 : (List (TPart).D) := (y_6_5.set i0.toNat ((nth (t := TPart) y_6_5 i0).1, (((nth (t := TPart) y_6_5 i0).2).1, ((wrap64 (wrap64 (v0.1 + (1 : Int)) + (1 : Int)), ((((nth (t := TPart) y_6_5 i0).2).2).1).2), ())))); have h := ok_let h y_8_6 rfl; ⟨hl0, ⟨ht0, (let y_10_6 : (List (TPart).D) := (y_8_6.set i0.toNat ((nth (t := TPart) y_8_6 i0).1, (((nth (t := TPart) y_8_6 i0).2).1, ((((((nth (t := TPart) y_8_6 i0).2).2).1).1, (wrap64 (wrap64 (wrap64 (v0.1 + (1 : Int)) + (1 : Int)) + (1 : Int)), (((((nth (t := TPart) y_8_6 i0).2).2).1).2).2)), ())))); have h := ok_let h y_10_6 rfl; ⟨(ok_guard h).1, have h := (ok_guard h).2; (fun r_12_3 e_r_12_3 => have h := ok_let h r_12_3 e_r_12_3; ⟨hl0, ⟨ht0, (let y_12_7 : (List (TPart).D) := (y_10_6.set i0.toNat ((nth (t := TPart) y_10_6 i0).1, (((nth (t := TPart) y_10_6 i0).2).1, ((((((nth (t := TPart) y_10_6 i0).2).2).1).1, ((((((nth (t := TPart) y_10_6 i0).2).2).1).2).1, (r_12_3, ()))), ())))); have h := ok_let h y_12_7 rfl; (loopI_next (fun m hm => (show LP46_0 x k m _ _ from ⟨hc0, hm⟩)) (wrap64 (wrap64 (wrap64 (wrap64 (wrap64 (v0.1 + (1 : Int)) + (1 : Int)) + (1 : Int)) + (1 : Int)) + (1 : Int)), y_12_7) rfl hl0 low0 ht0 (sm_len h_x) trivial (have h := ok_ret h; h)))⟩⟩)⟩)⟩⟩)⟩⟩)⟩⟩⟩⟩) (fun h => (h trivial)))
  · rw [vc46 x k K]
    exact (loopI_start (fun m hm => ⟨trivial, hm⟩) (0 : Int) (k, x) rfl (Int.natCast_nonneg 0) trivial (ok_then h (fun v0 h hv0 => (have h := ok_ret h; h)) (fun _ h => h.elim)))

/-! 24: loop.example/tablehouse/laws.markGuardS -/
def c24 : Con := ⟨[.dat TInt], fun args hp K => hpN 1000000 true TGuard (fun x => args2 (fun a0 a1 => withC 1000000 (x.length : Int) a0 (withD TInt a1 fun k => (Ln (Ty.sl TGuard) x) ∧ (0 ≤ k) ∧ (k + (M.count (Ty.sl TGuard) x : Int) ≤ M.big) ∧ (∀ r : (List (TGuard).D) × Int, r = ((M.mark (Ty.sl TGuard) x k, k + (M.count (Ty.sl TGuard) x : Int))) → K (.data TInt r.2) [(1000000, .arr true TGuard r.1)]))) args []) hp, .io⟩
def cons24 : Cons := [(46, c46)]
def inl24 : List (Nat × Inl) := []
@[reducible] def C24 : Ctx := ⟨tab, fun t => memN t cmps, cons24, 27, inl24, 0, false⟩
theorem consOk24 : ConsOk P C24 := by
  refine consOk_cons (enter_ok (fn := f46) func46 (by kernel_rfl) rfl) con46_ok ?_
  exact consOk_nil
def ann24 : Nat → List Dir
  | 0 => [.keep [0, 1]]
  | 1 => [.keep [0, 1, 5]]
  | 2 => [.keep [0, 1, 5, 9]]
  | 3 => [.keep [0, 1, 5]]
  | 4 => [.keep [0, 1, 5]]
  | 5 => [.keep [0, 1, 5]]
  | 6 => [.keep [0, 1, 5]]
  | 7 => [.keep [4]]
  | 100000 => [.keep [1]]
  | _ => []
@[reducible] def LP24_0 (x : (List (TGuard).D)) (k : Int) (m : Nat) (st_ : St) (K : X → St → Prop) : Prop := (True) ∧ LoopI (fun (i0 : Int) (v0 : Int × (List (TGuard).D)) => (⟨[(0, .clp 1000000 (x.length : Int)), (1, .data TInt v0.1), (5, .data TInt i0)], [(1000000, .arr true TGuard v0.2)]⟩ : St)) (0 : Int) (x.length : Int) (F.laws_markGuardS_l0 x k) (fun v0 : Int × (List (TGuard).D) => True) (outD (fun v0 : Int × (List (TGuard).D) => True → K (.exit 0) (⟨[(1, .data TInt v0.1)], [(1000000, .arr true TGuard v0.2)]⟩ : St)) (fun _ => False)) m st_
def L24 (x : (List (TGuard).D)) (k : Int) : Loops := fun id m st_ K => match id with
  | 0 => LP24_0 x k m st_ K
  | _ => False
theorem vc24 (x : (List (TGuard).D)) (k : Int) (K : AV → Hp → Prop) : awp C24 (L24 x k) ann24 (bodyOf f24) ⟨argEnv 0 [.clp 1000000 (x.length : Int), .data TInt k], [(1000000, .arr true TGuard x)]⟩ (outK tab false f24.results.toList (hasBox [(1000000, .arr true TGuard x)]) (resK .raw K)) =
  ((∃ m_, (True) ∧ LoopI (fun (i0 : Int) (v0 : Int × (List (TGuard).D)) => (⟨[(0, .clp 1000000 (x.length : Int)), (1, .data TInt v0.1), (5, .data TInt i0)], [(1000000, .arr true TGuard v0.2)]⟩ : St)) (0 : Int) (x.length : Int) (F.laws_markGuardS_l0 x k) (fun v0 : Int × (List (TGuard).D) => True) (outD (fun v0 : Int × (List (TGuard).D) => True → K (.data TInt v0.1) [(1000000, .arr true TGuard v0.2)]) (fun _ => False)) m_ (⟨[(0, .clp 1000000 (x.length : Int)), (1, .data TInt k), (5, .data TInt (0 : Int))], [(1000000, .arr true TGuard x)]⟩ : St))) := by kernel_rfl
theorem lvc24_0 (x : (List (TGuard).D)) (k : Int)  (i0 : Int) (v0 : Int × (List (TGuard).D)) (m : Nat) (K : X → St → Prop) : awp C24 (L24 x k) ann24 (loopAt (bodyOf f24) 0) (⟨[(0, .clp 1000000 (x.length : Int)), (1, .data TInt v0.1), (5, .data TInt i0)], [(1000000, .arr true TGuard v0.2)]⟩ : St) (thenW (fun s' => ∃ m', m' < m ∧ (L24 x k) 0 m' s' K) (exitN 0 (ann24 (behind 0)) K)) =
  (cond (decide (i0 < (x.length : Int))) ((0 ≤ i0) ∧ (i0 < (x.length : Int)) ∧ (0 ≤ i0) ∧ (i0 < (x.length : Int)) ∧ (((((nth (t := TGuard) (v0.2.set i0.toNat (v0.1, (nth (t := TGuard) v0.2 i0).2)) i0).2).1).length : Int) = ((((nth (t := TGuard) (v0.2.set i0.toNat (v0.1, (nth (t := TGuard) v0.2 i0).2)) i0).2).1).length : Int)) ∧ (Ln (Ty.sl TPart) (((nth (t := TGuard) (v0.2.set i0.toNat (v0.1, (nth (t := TGuard) v0.2 i0).2)) i0).2).1)) ∧ (0 ≤ (wrap64 (v0.1 + (1 : Int)))) ∧ ((wrap64 (v0.1 + (1 : Int))) + (M.count (Ty.sl TPart) (((nth (t := TGuard) (v0.2.set i0.toNat (v0.1, (nth (t := TGuard) v0.2 i0).2)) i0).2).1) : Int) ≤ M.big) ∧ (∀ r_6_6 : (List (TPart).D) × Int, r_6_6 = ((M.mark (Ty.sl TPart) (((nth (t := TGuard) (v0.2.set i0.toNat (v0.1, (nth (t := TGuard) v0.2 i0).2)) i0).2).1) (wrap64 (v0.1 + (1 : Int))), (wrap64 (v0.1 + (1 : Int))) + (M.count (Ty.sl TPart) (((nth (t := TGuard) (v0.2.set i0.toNat (v0.1, (nth (t := TGuard) v0.2 i0).2)) i0).2).1) : Int))) → (r_6_6.1.length = (((nth (t := TGuard) (v0.2.set i0.toNat (v0.1, (nth (t := TGuard) v0.2 i0).2)) i0).2).1).length) ∧ (∃ m_, m_ < m ∧ (L24 x k) 0 m_ (⟨[(0, .clp 1000000 (x.length : Int)), (1, .data TInt r_6_6.2), (5, .data TInt (wrap64 (i0 + (1 : Int))))], [(1000000, .arr true TGuard ((v0.2.set i0.toNat (v0.1, (nth (t := TGuard) v0.2 i0).2)).set i0.toNat ((nth (t := TGuard) (v0.2.set i0.toNat (v0.1, (nth (t := TGuard) v0.2 i0).2)) i0).1, (r_6_6.1, ()))))]⟩ : St) K))) (K (.exit 0) (⟨[(1, .data TInt v0.1)], [(1000000, .arr true TGuard v0.2)]⟩ : St))) := by kernel_rfl
theorem con24_ok : ConOk P 24 c24 := by
  refine con_okR (fn := f24) (code := bodyOf f24) (tab_ok tab_check cmp_check) consOk24 mixed func24 rfl rfl fun args hp K h0 => ?_
  unfold c24 at h0
  dsimp only at h0
  obtain ⟨x, rfl, h00⟩ := hpN_elim (n := 1000000) (d := true) (t := TGuard) h0
  obtain ⟨a0, a1, rfl, _, h1⟩ := args2_elim h00
  obtain ⟨rfl, h2⟩ := withC_elim h1
  obtain ⟨k, rfl, h3⟩ := withD_elim h2
  obtain ⟨h_x, p0, p1, hK⟩ := h3
  have h : ok (F.laws_markGuardS x k) (fun r => K (.data TInt r.2) [(1000000, .arr true TGuard r.1)]) := ok_of_eq (F.laws_markGuardS_eq x k h_x p0 p1) (hK _ rfl)
  refine ⟨⟨show (2 : Nat) ≤ 27 by decide, show (2 : Nat) ≤ 1000000 by decide⟩, ann24, (L24 x k), .raw, (loopsN1 (i0 := 0) (by kernel_rfl) ?_), ?_⟩
  · clear h
    intro m_ s_ K_ h
    obtain ⟨hc0, i0, v0, rfl, hl0, rfl, hv0, h⟩ := (show LP24_0 x k m_ s_ K_ from h)
    rw [lvc24_0 x k i0 v0 _ K_]
    exact (loopI_step h (fun ht0 h => ⟨hl0, ⟨ht0, ⟨hl0, ⟨ht0, ⟨rfl, ⟨(ok_guard h).1, have h := (ok_guard h).2; ⟨(ok_guard h).1, have h := (ok_guard h).2; ⟨(ok_guard h).1, have h := (ok_guard h).2; (fun r_6_6 e_r_6_6 => have h := ok_let h r_6_6 e_r_6_6; ⟨(by rw [e_r_6_6]; exact (M.mark_len TPart _ _)), (loopI_next (fun m hm => (show LP24_0 x k m _ _ from ⟨hc0, hm⟩)) (r_6_6.2, ((v0.2.set i0.toNat (v0.1, (nth (t := TGuard) v0.2 i0).2)).set i0.toNat ((nth (t := TGuard) (v0.2.set i0.toNat (v0.1, (nth (t := TGuard) v0.2 i0).2)) i0).1, (r_6_6.1, ())))) rfl hl0 low0 ht0 (sm_len h_x) trivial (have h := ok_ret h; h))⟩)⟩⟩⟩⟩⟩⟩⟩⟩) (fun h => (h trivial)))
  · rw [vc24 x k K]
    exact (loopI_start (fun m hm => ⟨trivial, hm⟩) (0 : Int) (k, x) rfl (Int.natCast_nonneg 0) trivial (ok_then h (fun v0 h hv0 => (have h := ok_ret h; h)) (fun _ h => h.elim)))

/-! 77: loop.example/tablehouse/laws.heldValueS -/
def c77 : Con := ⟨[.dat (Ty.sl TValue), .dat TInt], fun args hp K => args2 (fun a0 a1 => withD (Ty.sl TValue) a0 fun x => withD TInt a1 fun k => (Ln (Ty.sl TValue) x) ∧ (0 ≤ k) ∧ (k + (M.count (Ty.sl TValue) x : Int) ≤ M.big) ∧ (M.mark (Ty.sl TValue) x k = x) ∧ K (.data TInt (k + (M.count (Ty.sl TValue) x : Int))) []) args hp, .bor⟩
def cons77 : Cons := [(94, c94)]
def inl77 : List (Nat × Inl) := []
@[reducible] def C77 : Ctx := ⟨tab, fun t => memN t cmps, cons77, 41, inl77, 0, false⟩
theorem consOk77 : ConsOk P C77 := by
  refine consOk_cons (enter_ok (fn := f94) func94 (by kernel_rfl) rfl) con94_ok ?_
  exact consOk_nil
def ann77 : Nat → List Dir
  | 0 => [.keep [0, 1]]
  | 1 => [.keep [0, 1, 5]]
  | 2 => [.keep [0, 1, 5, 9]]
  | 3 => [.keep [0, 1, 5]]
  | 4 => [.keep [0, 1, 5, 18]]
  | 5 => [.keep [4]]
  | 6 => [.keep [0, 1, 5]]
  | 7 => [.keep [0, 1, 5, 27]]
  | 8 => [.keep [4]]
  | 9 => [.keep [0, 1, 5]]
  | 10 => [.keep [0, 1, 5, 37]]
  | 11 => [.keep [4]]
  | 12 => [.keep [0, 1, 5]]
  | 13 => [.keep [4]]
  | 100000 => [.keep [1]]
  | _ => []
@[reducible] def LP77_0 (x : (List (TValue).D)) (k : Int) (m : Nat) (st_ : St) (K : X → St → Prop) : Prop := (True) ∧ LoopE (t := TValue) (fun (i0 : Int) (v0 : Int) => (⟨[(0, .data (Ty.sl TValue) x), (1, .data TInt v0), (5, .data TInt i0)], []⟩ : St)) x (F.laws_heldValueS_l0 x k) (fun v0 : Int => True) (outD (fun v0 : Int => True → K (.exit 0) (⟨[(1, .data TInt v0)], []⟩ : St)) (fun q0 : Unit => K .ret (⟨[(4, .data TInt (-1 : Int))], []⟩ : St))) m st_
def L77 (x : (List (TValue).D)) (k : Int) : Loops := fun id m st_ K => match id with
  | 0 => LP77_0 x k m st_ K
  | _ => False
theorem vc77 (x : (List (TValue).D)) (k : Int) (K : AV → Hp → Prop) : awp C77 (L77 x k) ann77 (bodyOf f77) ⟨argEnv 0 [.data (Ty.sl TValue) x, .data TInt k], []⟩ (outK tab false f77.results.toList (hasBox []) (resK (.dat TInt) K)) =
  ((∃ m_, (True) ∧ LoopE (t := TValue) (fun (i0 : Int) (v0 : Int) => (⟨[(0, .data (Ty.sl TValue) x), (1, .data TInt v0), (5, .data TInt i0)], []⟩ : St)) x (F.laws_heldValueS_l0 x k) (fun v0 : Int => True) (outD (fun v0 : Int => True → K (.data TInt v0) []) (fun q0 : Unit => K (.data TInt (-1 : Int)) [])) m_ (⟨[(0, .data (Ty.sl TValue) x), (1, .data TInt k), (5, .data TInt (0 : Int))], []⟩ : St))) := by kernel_rfl
theorem lvc77_0 (x : (List (TValue).D)) (k : Int)  (i0 : Int) (v0 : Int) (m : Nat) (K : X → St → Prop) : awp C77 (L77 x k) ann77 (loopAt (bodyOf f77) 0) (⟨[(0, .data (Ty.sl TValue) x), (1, .data TInt v0), (5, .data TInt i0)], []⟩ : St) (thenW (fun s' => ∃ m', m' < m ∧ (L77 x k) 0 m' s' K) (exitN 0 (ann77 (behind 0)) K)) =
  (cond (decide (i0 < (x.length : Int))) ((0 ≤ i0) ∧ (i0 < (x.length : Int)) ∧ cond (!decide ((nth (t := TValue) x i0).1 = v0)) (K .ret (⟨[(4, .data TInt (-1 : Int))], []⟩ : St)) ((0 ≤ i0) ∧ (i0 < (x.length : Int)) ∧ cond (!decide (((nth (t := TValue) x i0).2).1 = wrap64 (v0 + (1 : Int)))) (K .ret (⟨[(4, .data TInt (-1 : Int))], []⟩ : St)) ((0 ≤ i0) ∧ (i0 < (x.length : Int)) ∧ ((wrap64 (wrap64 (v0 + (1 : Int)) + (1 : Int))) ≤ M.big) ∧ (∀ r_10_6 : ByteArray, r_10_6 = (M.markText (wrap64 (wrap64 (v0 + (1 : Int)) + (1 : Int)))) → cond (!decide ((((nth (t := TValue) x i0).2).2).1 = r_10_6)) (K .ret (⟨[(4, .data TInt (-1 : Int))], []⟩ : St)) ((∃ m_, m_ < m ∧ (L77 x k) 0 m_ (⟨[(0, .data (Ty.sl TValue) x), (1, .data TInt (wrap64 (wrap64 (wrap64 (v0 + (1 : Int)) + (1 : Int)) + (1 : Int)))), (5, .data TInt (wrap64 (i0 + (1 : Int))))], []⟩ : St) K)))))) (K (.exit 0) (⟨[(1, .data TInt v0)], []⟩ : St))) := by kernel_rfl
theorem con77_ok : ConOk P 77 c77 := by
  refine con_okR (fn := f77) (code := bodyOf f77) (tab_ok tab_check cmp_check) consOk77 mixed func77 rfl rfl fun args hp K h0 => ?_
  obtain ⟨a0, a1, rfl, rfl, h1⟩ := args2_elim h0
  obtain ⟨x, rfl, h2⟩ := withD_elim h1
  obtain ⟨k, rfl, h3⟩ := withD_elim h2
  obtain ⟨h_x, p0, p1, p2, hK⟩ := h3
  have h : ok (F.laws_heldValueS x k) (fun r => K (.data TInt r) []) := ok_of_eq (F.laws_heldValueS_eq x k h_x p0 p1 p2) hK
  refine ⟨⟨show (2 : Nat) ≤ 41 by decide, show (2 : Nat) ≤ 1000000 by decide⟩, ann77, (L77 x k), (.dat TInt), (loopsN1 (i0 := 0) (by kernel_rfl) ?_), ?_⟩
  · clear h
    intro m_ s_ K_ h
    obtain ⟨hc0, i0, v0, rfl, hl0, rfl, hv0, h⟩ := (show LP77_0 x k m_ s_ K_ from h)
    rw [lvc77_0 x k i0 v0 _ K_]
    exact (loopE_step (t := TValue) hl0 h (fun ht0 h => ⟨hl0, ⟨ht0, (ok_cond h (fun b_15 h => (have h := ok_ret h; h)) (fun b_15 h => ⟨hl0, ⟨ht0, (ok_cond h (fun b_16 h => (have h := ok_ret h; h)) (fun b_16 h => ⟨hl0, ⟨ht0, ⟨(ok_guard h).1, have h := (ok_guard h).2; (fun r_10_6 e_r_10_6 => have h := ok_let h r_10_6 e_r_10_6; (ok_cond h (fun b_18 h => (have h := ok_ret h; h)) (fun b_18 h => (loopE_next (t := TValue) (fun m hm => (show LP77_0 x k m _ _ from ⟨hc0, hm⟩)) (wrap64 (wrap64 (wrap64 (v0 + (1 : Int)) + (1 : Int)) + (1 : Int))) rfl hl0 ht0 (sm_len h_x) trivial (have h := ok_ret h; h)))))⟩⟩⟩))⟩⟩))⟩⟩) (fun h => (h trivial)))
  · rw [vc77 x k K]
    exact (loopE_start (t := TValue) (fun m hm => ⟨trivial, hm⟩) k rfl trivial (ok_then h (fun v0 h hv0 => (have h := ok_ret h; h)) (fun q0 h => (have h := ok_ret h; h))))

/-! 34: loop.example/tablehouse/laws.heldValueSS -/
def c34 : Con := ⟨[.dat (Ty.sl (Ty.sl TValue)), .dat TInt], fun args hp K => args2 (fun a0 a1 => withD (Ty.sl (Ty.sl TValue)) a0 fun x => withD TInt a1 fun k => (Ln (Ty.sl (Ty.sl TValue)) x) ∧ (0 ≤ k) ∧ (k + (M.count (Ty.sl (Ty.sl TValue)) x : Int) ≤ M.big) ∧ (M.mark (Ty.sl (Ty.sl TValue)) x k = x) ∧ K (.data TInt (k + (M.count (Ty.sl (Ty.sl TValue)) x : Int))) []) args hp, .bor⟩
def cons34 : Cons := [(77, c77)]
def inl34 : List (Nat × Inl) := []
@[reducible] def C34 : Ctx := ⟨tab, fun t => memN t cmps, cons34, 21, inl34, 0, false⟩
theorem consOk34 : ConsOk P C34 := by
  refine consOk_cons (enter_ok (fn := f77) func77 (by kernel_rfl) rfl) con77_ok ?_
  exact consOk_nil
def ann34 : Nat → List Dir
  | 0 => [.keep [0, 1]]
  | 1 => [.keep [0, 1, 5]]
  | 2 => [.keep [0, 1, 5, 9]]
  | 3 => [.keep [0, 1, 5]]
  | 4 => [.keep [0, 1, 5]]
  | 5 => [.keep [0, 1, 5, 19]]
  | 6 => [.keep [4]]
  | 7 => [.keep [4]]
  | 100000 => [.keep [1]]
  | _ => []
@[reducible] def LP34_0 (x : (List (List (TValue).D))) (k : Int) (m : Nat) (st_ : St) (K : X → St → Prop) : Prop := (True) ∧ LoopE (t := (Ty.sl TValue)) (fun (i0 : Int) (v0 : Int) => (⟨[(0, .data (Ty.sl (Ty.sl TValue)) x), (1, .data TInt v0), (5, .data TInt i0)], []⟩ : St)) x (F.laws_heldValueSS_l0 x k) (fun v0 : Int => True) (outD (fun v0 : Int => True → K (.exit 0) (⟨[(1, .data TInt v0)], []⟩ : St)) (fun q0 : Unit => K .ret (⟨[(4, .data TInt (-1 : Int))], []⟩ : St))) m st_
def L34 (x : (List (List (TValue).D))) (k : Int) : Loops := fun id m st_ K => match id with
  | 0 => LP34_0 x k m st_ K
  | _ => False
theorem vc34 (x : (List (List (TValue).D))) (k : Int) (K : AV → Hp → Prop) : awp C34 (L34 x k) ann34 (bodyOf f34) ⟨argEnv 0 [.data (Ty.sl (Ty.sl TValue)) x, .data TInt k], []⟩ (outK tab false f34.results.toList (hasBox []) (resK (.dat TInt) K)) =
  ((∃ m_, (True) ∧ LoopE (t := (Ty.sl TValue)) (fun (i0 : Int) (v0 : Int) => (⟨[(0, .data (Ty.sl (Ty.sl TValue)) x), (1, .data TInt v0), (5, .data TInt i0)], []⟩ : St)) x (F.laws_heldValueSS_l0 x k) (fun v0 : Int => True) (outD (fun v0 : Int => True → K (.data TInt v0) []) (fun q0 : Unit => K (.data TInt (-1 : Int)) [])) m_ (⟨[(0, .data (Ty.sl (Ty.sl TValue)) x), (1, .data TInt k), (5, .data TInt (0 : Int))], []⟩ : St))) := by kernel_rfl
theorem lvc34_0 (x : (List (List (TValue).D))) (k : Int)  (i0 : Int) (v0 : Int) (m : Nat) (K : X → St → Prop) : awp C34 (L34 x k) ann34 (loopAt (bodyOf f34) 0) (⟨[(0, .data (Ty.sl (Ty.sl TValue)) x), (1, .data TInt v0), (5, .data TInt i0)], []⟩ : St) (thenW (fun s' => ∃ m', m' < m ∧ (L34 x k) 0 m' s' K) (exitN 0 (ann34 (behind 0)) K)) =
  (cond (decide (i0 < (x.length : Int))) ((0 ≤ i0) ∧ (i0 < (x.length : Int)) ∧ (Ln (Ty.sl TValue) (nth (t := (Ty.sl TValue)) x i0)) ∧ (0 ≤ v0) ∧ (v0 + (M.count (Ty.sl TValue) (nth (t := (Ty.sl TValue)) x i0) : Int) ≤ M.big) ∧ (M.mark (Ty.sl TValue) (nth (t := (Ty.sl TValue)) x i0) v0 = (nth (t := (Ty.sl TValue)) x i0)) ∧ cond (decide ((v0 + (M.count (Ty.sl TValue) (nth (t := (Ty.sl TValue)) x i0) : Int)) < (0 : Int))) (K .ret (⟨[(4, .data TInt (-1 : Int))], []⟩ : St)) ((∃ m_, m_ < m ∧ (L34 x k) 0 m_ (⟨[(0, .data (Ty.sl (Ty.sl TValue)) x), (1, .data TInt (v0 + (M.count (Ty.sl TValue) (nth (t := (Ty.sl TValue)) x i0) : Int))), (5, .data TInt (wrap64 (i0 + (1 : Int))))], []⟩ : St) K))) (K (.exit 0) (⟨[(1, .data TInt v0)], []⟩ : St))) := by kernel_rfl
theorem con34_ok : ConOk P 34 c34 := by
  refine con_okR (fn := f34) (code := bodyOf f34) (tab_ok tab_check cmp_check) consOk34 mixed func34 rfl rfl fun args hp K h0 => ?_
  obtain ⟨a0, a1, rfl, rfl, h1⟩ := args2_elim h0
  obtain ⟨x, rfl, h2⟩ := withD_elim h1
  obtain ⟨k, rfl, h3⟩ := withD_elim h2
  obtain ⟨h_x, p0, p1, p2, hK⟩ := h3
  have h : ok (F.laws_heldValueSS x k) (fun r => K (.data TInt r) []) := ok_of_eq (F.laws_heldValueSS_eq x k h_x p0 p1 p2) hK
  refine ⟨⟨show (2 : Nat) ≤ 21 by decide, show (2 : Nat) ≤ 1000000 by decide⟩, ann34, (L34 x k), (.dat TInt), (loopsN1 (i0 := 0) (by kernel_rfl) ?_), ?_⟩
  · clear h
    intro m_ s_ K_ h
    obtain ⟨hc0, i0, v0, rfl, hl0, rfl, hv0, h⟩ := (show LP34_0 x k m_ s_ K_ from h)
    rw [lvc34_0 x k i0 v0 _ K_]
    exact (loopE_step (t := (Ty.sl TValue)) hl0 h (fun ht0 h => ⟨hl0, ⟨ht0, ⟨(sm_nth h_x i0), ⟨(ok_guard h).1, have h := (ok_guard h).2; ⟨(ok_guard h).1, have h := (ok_guard h).2; ⟨(ok_guard h).1, have h := (ok_guard h).2; (ok_cond h (fun b_18 h => (have h := ok_ret h; h)) (fun b_18 h => (loopE_next (t := (Ty.sl TValue)) (fun m hm => (show LP34_0 x k m _ _ from ⟨hc0, hm⟩)) (v0 + (M.count (Ty.sl TValue) (nth (t := (Ty.sl TValue)) x i0) : Int)) rfl hl0 ht0 (sm_len h_x) trivial (have h := ok_ret h; h))))⟩⟩⟩⟩⟩⟩) (fun h => (h trivial)))
  · rw [vc34 x k K]
    exact (loopE_start (t := (Ty.sl TValue)) (fun m hm => ⟨trivial, hm⟩) k rfl trivial (ok_then h (fun v0 h hv0 => (have h := ok_ret h; h)) (fun q0 h => (have h := ok_ret h; h))))

/-! 61: loop.example/tablehouse/laws.heldColumnS -/
def c61 : Con := ⟨[.dat (Ty.sl TColumn), .dat TInt], fun args hp K => args2 (fun a0 a1 => withD (Ty.sl TColumn) a0 fun x => withD TInt a1 fun k => (Ln (Ty.sl TColumn) x) ∧ (0 ≤ k) ∧ (k + (M.count (Ty.sl TColumn) x : Int) ≤ M.big) ∧ (M.mark (Ty.sl TColumn) x k = x) ∧ K (.data TInt (k + (M.count (Ty.sl TColumn) x : Int))) []) args hp, .bor⟩
def cons61 : Cons := []
def inl61 : List (Nat × Inl) := []
@[reducible] def C61 : Ctx := ⟨tab, fun t => memN t cmps, cons61, 33, inl61, 0, false⟩
theorem consOk61 : ConsOk P C61 := by
  exact consOk_nil
def ann61 : Nat → List Dir
  | 0 => [.keep [0, 1]]
  | 1 => [.keep [0, 1, 5]]
  | 2 => [.keep [0, 1, 5, 9]]
  | 3 => [.keep [0, 1, 5]]
  | 4 => [.keep [0, 1, 5, 18]]
  | 5 => [.keep [4]]
  | 6 => [.keep [0, 1, 5]]
  | 7 => [.keep [0, 1, 5, 29]]
  | 8 => [.keep [4]]
  | 9 => [.keep [0, 1, 5]]
  | 10 => [.keep [4]]
  | 100000 => [.keep [1]]
  | _ => []
@[reducible] def LP61_0 (x : (List (TColumn).D)) (k : Int) (m : Nat) (st_ : St) (K : X → St → Prop) : Prop := (True) ∧ LoopE (t := TColumn) (fun (i0 : Int) (v0 : Int) => (⟨[(0, .data (Ty.sl TColumn) x), (1, .data TInt v0), (5, .data TInt i0)], []⟩ : St)) x (F.laws_heldColumnS_l0 x k) (fun v0 : Int => True) (outD (fun v0 : Int => True → K (.exit 0) (⟨[(1, .data TInt v0)], []⟩ : St)) (fun q0 : Unit => K .ret (⟨[(4, .data TInt (-1 : Int))], []⟩ : St))) m st_
def L61 (x : (List (TColumn).D)) (k : Int) : Loops := fun id m st_ K => match id with
  | 0 => LP61_0 x k m st_ K
  | _ => False
theorem vc61 (x : (List (TColumn).D)) (k : Int) (K : AV → Hp → Prop) : awp C61 (L61 x k) ann61 (bodyOf f61) ⟨argEnv 0 [.data (Ty.sl TColumn) x, .data TInt k], []⟩ (outK tab false f61.results.toList (hasBox []) (resK (.dat TInt) K)) =
  ((∃ m_, (True) ∧ LoopE (t := TColumn) (fun (i0 : Int) (v0 : Int) => (⟨[(0, .data (Ty.sl TColumn) x), (1, .data TInt v0), (5, .data TInt i0)], []⟩ : St)) x (F.laws_heldColumnS_l0 x k) (fun v0 : Int => True) (outD (fun v0 : Int => True → K (.data TInt v0) []) (fun q0 : Unit => K (.data TInt (-1 : Int)) [])) m_ (⟨[(0, .data (Ty.sl TColumn) x), (1, .data TInt k), (5, .data TInt (0 : Int))], []⟩ : St))) := by kernel_rfl
theorem lvc61_0 (x : (List (TColumn).D)) (k : Int)  (i0 : Int) (v0 : Int) (m : Nat) (K : X → St → Prop) : awp C61 (L61 x k) ann61 (loopAt (bodyOf f61) 0) (⟨[(0, .data (Ty.sl TColumn) x), (1, .data TInt v0), (5, .data TInt i0)], []⟩ : St) (thenW (fun s' => ∃ m', m' < m ∧ (L61 x k) 0 m' s' K) (exitN 0 (ann61 (behind 0)) K)) =
  (cond (decide (i0 < (x.length : Int))) ((0 ≤ i0) ∧ (i0 < (x.length : Int)) ∧ cond (!decide ((nth (t := TColumn) x i0).1 = v0)) (K .ret (⟨[(4, .data TInt (-1 : Int))], []⟩ : St)) ((0 ≤ i0) ∧ (i0 < (x.length : Int)) ∧ ((3 : Int) ≠ 0) ∧ cond (!(Ty.beq Ty.bool (((nth (t := TColumn) x i0).2).1) (decide (((wrap64 (v0 + (1 : Int))).tmod (3 : Int)) = (0 : Int))))) (K .ret (⟨[(4, .data TInt (-1 : Int))], []⟩ : St)) ((∃ m_, m_ < m ∧ (L61 x k) 0 m_ (⟨[(0, .data (Ty.sl TColumn) x), (1, .data TInt (wrap64 (wrap64 (v0 + (1 : Int)) + (1 : Int)))), (5, .data TInt (wrap64 (i0 + (1 : Int))))], []⟩ : St) K)))) (K (.exit 0) (⟨[(1, .data TInt v0)], []⟩ : St))) := by kernel_rfl
theorem con61_ok : ConOk P 61 c61 := by
  refine con_okR (fn := f61) (code := bodyOf f61) (tab_ok tab_check cmp_check) consOk61 mixed func61 rfl rfl fun args hp K h0 => ?_
  obtain ⟨a0, a1, rfl, rfl, h1⟩ := args2_elim h0
  obtain ⟨x, rfl, h2⟩ := withD_elim h1
  obtain ⟨k, rfl, h3⟩ := withD_elim h2
  obtain ⟨h_x, p0, p1, p2, hK⟩ := h3
  have h : ok (F.laws_heldColumnS x k) (fun r => K (.data TInt r) []) := ok_of_eq (F.laws_heldColumnS_eq x k h_x p0 p1 p2) hK
  refine ⟨⟨show (2 : Nat) ≤ 33 by decide, show (2 : Nat) ≤ 1000000 by decide⟩, ann61, (L61 x k), (.dat TInt), (loopsN1 (i0 := 0) (by kernel_rfl) ?_), ?_⟩
  · clear h
    intro m_ s_ K_ h
    obtain ⟨hc0, i0, v0, rfl, hl0, rfl, hv0, h⟩ := (show LP61_0 x k m_ s_ K_ from h)
    rw [lvc61_0 x k i0 v0 _ K_]
    exact (loopE_step (t := TColumn) hl0 h (fun ht0 h => ⟨hl0, ⟨ht0, (ok_cond h (fun b_11 h => (have h := ok_ret h; h)) (fun b_11 h => ⟨hl0, ⟨ht0, ⟨(by decide), (ok_cond h (fun b_12 h => (have h := ok_ret h; h)) (fun b_12 h => (loopE_next (t := TColumn) (fun m hm => (show LP61_0 x k m _ _ from ⟨hc0, hm⟩)) (wrap64 (wrap64 (v0 + (1 : Int)) + (1 : Int))) rfl hl0 ht0 (sm_len h_x) trivial (have h := ok_ret h; h))))⟩⟩⟩))⟩⟩) (fun h => (h trivial)))
  · rw [vc61 x k K]
    exact (loopE_start (t := TColumn) (fun m hm => ⟨trivial, hm⟩) k rfl trivial (ok_then h (fun v0 h hv0 => (have h := ok_ret h; h)) (fun q0 h => (have h := ok_ret h; h))))

/-! 25: loop.example/tablehouse/laws.heldTableS -/
def c25 : Con := ⟨[.dat (Ty.sl TTable), .dat TInt], fun args hp K => args2 (fun a0 a1 => withD (Ty.sl TTable) a0 fun x => withD TInt a1 fun k => (Ln (Ty.sl TTable) x) ∧ (0 ≤ k) ∧ (k + (M.count (Ty.sl TTable) x : Int) ≤ M.big) ∧ (M.mark (Ty.sl TTable) x k = x) ∧ K (.data TInt (k + (M.count (Ty.sl TTable) x : Int))) []) args hp, .bor⟩
def cons25 : Cons := [(34, c34), (61, c61)]
def inl25 : List (Nat × Inl) := []
@[reducible] def C25 : Ctx := ⟨tab, fun t => memN t cmps, cons25, 31, inl25, 0, false⟩
theorem consOk25 : ConsOk P C25 := by
  refine consOk_cons (enter_ok (fn := f34) func34 (by kernel_rfl) rfl) con34_ok ?_
  refine consOk_cons (enter_ok (fn := f61) func61 (by kernel_rfl) rfl) con61_ok ?_
  exact consOk_nil
def ann25 : Nat → List Dir
  | 0 => [.keep [0, 1]]
  | 1 => [.keep [0, 1, 5]]
  | 2 => [.keep [0, 1, 5, 9]]
  | 3 => [.keep [0, 1, 5]]
  | 4 => [.keep [0, 1, 5]]
  | 5 => [.keep [0, 1, 5, 20]]
  | 6 => [.keep [4]]
  | 7 => [.keep [0, 1, 5]]
  | 8 => [.keep [0, 1, 5, 29]]
  | 9 => [.keep [4]]
  | 10 => [.keep [4]]
  | 100000 => [.keep [1]]
  | _ => []
@[reducible] def LP25_0 (x : (List (TTable).D)) (k : Int) (m : Nat) (st_ : St) (K : X → St → Prop) : Prop := (True) ∧ LoopE (t := TTable) (fun (i0 : Int) (v0 : Int) => (⟨[(0, .data (Ty.sl TTable) x), (1, .data TInt v0), (5, .data TInt i0)], []⟩ : St)) x (F.laws_heldTableS_l0 x k) (fun v0 : Int => True) (outD (fun v0 : Int => True → K (.exit 0) (⟨[(1, .data TInt v0)], []⟩ : St)) (fun q0 : Unit => K .ret (⟨[(4, .data TInt (-1 : Int))], []⟩ : St))) m st_
def L25 (x : (List (TTable).D)) (k : Int) : Loops := fun id m st_ K => match id with
  | 0 => LP25_0 x k m st_ K
  | _ => False
theorem vc25 (x : (List (TTable).D)) (k : Int) (K : AV → Hp → Prop) : awp C25 (L25 x k) ann25 (bodyOf f25) ⟨argEnv 0 [.data (Ty.sl TTable) x, .data TInt k], []⟩ (outK tab false f25.results.toList (hasBox []) (resK (.dat TInt) K)) =
  ((∃ m_, (True) ∧ LoopE (t := TTable) (fun (i0 : Int) (v0 : Int) => (⟨[(0, .data (Ty.sl TTable) x), (1, .data TInt v0), (5, .data TInt i0)], []⟩ : St)) x (F.laws_heldTableS_l0 x k) (fun v0 : Int => True) (outD (fun v0 : Int => True → K (.data TInt v0) []) (fun q0 : Unit => K (.data TInt (-1 : Int)) [])) m_ (⟨[(0, .data (Ty.sl TTable) x), (1, .data TInt k), (5, .data TInt (0 : Int))], []⟩ : St))) := by kernel_rfl
theorem lvc25_0 (x : (List (TTable).D)) (k : Int)  (i0 : Int) (v0 : Int) (m : Nat) (K : X → St → Prop) : awp C25 (L25 x k) ann25 (loopAt (bodyOf f25) 0) (⟨[(0, .data (Ty.sl TTable) x), (1, .data TInt v0), (5, .data TInt i0)], []⟩ : St) (thenW (fun s' => ∃ m', m' < m ∧ (L25 x k) 0 m' s' K) (exitN 0 (ann25 (behind 0)) K)) =
  (cond (decide (i0 < (x.length : Int))) ((0 ≤ i0) ∧ (i0 < (x.length : Int)) ∧ (Ln (Ty.sl TColumn) ((nth (t := TTable) x i0).1)) ∧ (0 ≤ v0) ∧ (v0 + (M.count (Ty.sl TColumn) ((nth (t := TTable) x i0).1) : Int) ≤ M.big) ∧ (M.mark (Ty.sl TColumn) ((nth (t := TTable) x i0).1) v0 = ((nth (t := TTable) x i0).1)) ∧ cond (decide ((v0 + (M.count (Ty.sl TColumn) ((nth (t := TTable) x i0).1) : Int)) < (0 : Int))) (K .ret (⟨[(4, .data TInt (-1 : Int))], []⟩ : St)) ((0 ≤ i0) ∧ (i0 < (x.length : Int)) ∧ (Ln (Ty.sl (Ty.sl TValue)) (((nth (t := TTable) x i0).2).1)) ∧ (0 ≤ (v0 + (M.count (Ty.sl TColumn) ((nth (t := TTable) x i0).1) : Int))) ∧ ((v0 + (M.count (Ty.sl TColumn) ((nth (t := TTable) x i0).1) : Int)) + (M.count (Ty.sl (Ty.sl TValue)) (((nth (t := TTable) x i0).2).1) : Int) ≤ M.big) ∧ (M.mark (Ty.sl (Ty.sl TValue)) (((nth (t := TTable) x i0).2).1) (v0 + (M.count (Ty.sl TColumn) ((nth (t := TTable) x i0).1) : Int)) = (((nth (t := TTable) x i0).2).1)) ∧ cond (decide (((v0 + (M.count (Ty.sl TColumn) ((nth (t := TTable) x i0).1) : Int)) + (M.count (Ty.sl (Ty.sl TValue)) (((nth (t := TTable) x i0).2).1) : Int)) < (0 : Int))) (K .ret (⟨[(4, .data TInt (-1 : Int))], []⟩ : St)) ((∃ m_, m_ < m ∧ (L25 x k) 0 m_ (⟨[(0, .data (Ty.sl TTable) x), (1, .data TInt ((v0 + (M.count (Ty.sl TColumn) ((nth (t := TTable) x i0).1) : Int)) + (M.count (Ty.sl (Ty.sl TValue)) (((nth (t := TTable) x i0).2).1) : Int))), (5, .data TInt (wrap64 (i0 + (1 : Int))))], []⟩ : St) K)))) (K (.exit 0) (⟨[(1, .data TInt v0)], []⟩ : St))) := by kernel_rfl
theorem con25_ok : ConOk P 25 c25 := by
  refine con_okR (fn := f25) (code := bodyOf f25) (tab_ok tab_check cmp_check) consOk25 mixed func25 rfl rfl fun args hp K h0 => ?_
  obtain ⟨a0, a1, rfl, rfl, h1⟩ := args2_elim h0
  obtain ⟨x, rfl, h2⟩ := withD_elim h1
  obtain ⟨k, rfl, h3⟩ := withD_elim h2
  obtain ⟨h_x, p0, p1, p2, hK⟩ := h3
  have h : ok (F.laws_heldTableS x k) (fun r => K (.data TInt r) []) := ok_of_eq (F.laws_heldTableS_eq x k h_x p0 p1 p2) hK
  refine ⟨⟨show (2 : Nat) ≤ 31 by decide, show (2 : Nat) ≤ 1000000 by decide⟩, ann25, (L25 x k), (.dat TInt), (loopsN1 (i0 := 0) (by kernel_rfl) ?_), ?_⟩
  · clear h
    intro m_ s_ K_ h
    obtain ⟨hc0, i0, v0, rfl, hl0, rfl, hv0, h⟩ := (show LP25_0 x k m_ s_ K_ from h)
    rw [lvc25_0 x k i0 v0 _ K_]
    exact (loopE_step (t := TTable) hl0 h (fun ht0 h => ⟨hl0, ⟨ht0, ⟨(sm_nth h_x i0).1, ⟨(ok_guard h).1, have h := (ok_guard h).2; ⟨(ok_guard h).1, have h := (ok_guard h).2; ⟨(ok_guard h).1, have h := (ok_guard h).2; (ok_cond h (fun b_26 h => (have h := ok_ret h; h)) (fun b_26 h => ⟨hl0, ⟨ht0, ⟨(sm_nth h_x i0).2.1, ⟨(ok_guard h).1, have h := (ok_guard h).2; ⟨(ok_guard h).1, have h := (ok_guard h).2; ⟨(ok_guard h).1, have h := (ok_guard h).2; (ok_cond h (fun b_30 h => (have h := ok_ret h; h)) (fun b_30 h => (loopE_next (t := TTable) (fun m hm => (show LP25_0 x k m _ _ from ⟨hc0, hm⟩)) ((v0 + (M.count (Ty.sl TColumn) ((nth (t := TTable) x i0).1) : Int)) + (M.count (Ty.sl (Ty.sl TValue)) (((nth (t := TTable) x i0).2).1) : Int)) rfl hl0 ht0 (sm_len h_x) trivial (have h := ok_ret h; h))))⟩⟩⟩⟩⟩⟩))⟩⟩⟩⟩⟩⟩) (fun h => (h trivial)))
  · rw [vc25 x k K]
    exact (loopE_start (t := TTable) (fun m hm => ⟨trivial, hm⟩) k rfl trivial (ok_then h (fun v0 h hv0 => (have h := ok_ret h; h)) (fun q0 h => (have h := ok_ret h; h))))

/-! 4: loop.example/tablehouse/laws.FnExactTablesSeen -/
def c4 : Con := ⟨[.dat (Ty.sl TTable), .dat (Ty.sl TGuard)], fun args hp K => args2 (fun a0 a1 => withD (Ty.sl TTable) a0 fun aTables => withD (Ty.sl TGuard) a1 fun aGuards => (Ln (Ty.sl TTable) aTables) ∧ (Ln (Ty.sl TGuard) aGuards) ∧ K (.data Ty.bool (true)) []) args hp, .plain⟩
def cons4 : Cons := [(8, c8), (11, c11), (15, c15), (16, c16), (19, c19), (20, c20), (21, c21), (22, c22), (23, c23), (24, c24), (25, c25)]
def inl4 : List (Nat × Inl) := []
@[reducible] def C4 : Ctx := ⟨tab, fun t => memN t cmps, cons4, 92, inl4, 0, true⟩
theorem consOk4 : ConsOk P C4 := by
  refine consOk_cons (enter_ok (fn := f8) func8 (by kernel_rfl) rfl) con8_ok ?_
  refine consOk_cons (enter_ok (fn := f11) func11 (by kernel_rfl) rfl) con11_ok ?_
  refine consOk_cons (enter_ok (fn := f15) func15 (by kernel_rfl) rfl) con15_ok ?_
  refine consOk_cons (enter_ok (fn := f16) func16 (by kernel_rfl) rfl) con16_ok ?_
  refine consOk_cons (enter_ok (fn := f19) func19 (by kernel_rfl) rfl) con19_ok ?_
  refine consOk_cons (enter_ok (fn := f20) func20 (by kernel_rfl) rfl) con20_ok ?_
  refine consOk_cons (enter_ok (fn := f21) func21 (by kernel_rfl) rfl) con21_ok ?_
  refine consOk_cons (enter_ok (fn := f22) func22 (by kernel_rfl) rfl) con22_ok ?_
  refine consOk_cons (enter_ok (fn := f23) func23 (by kernel_rfl) rfl) con23_ok ?_
  refine consOk_cons (enter_ok (fn := f24) func24 (by kernel_rfl) rfl) con24_ok ?_
  refine consOk_cons (enter_ok (fn := f25) func25 (by kernel_rfl) rfl) con25_ok ?_
  exact consOk_nil
def ann4 : Nat → List Dir
  | 0 => [.keep [0, 1]]
  | 1 => [.keep [0, 1, 5]]
  | 2 => [.keep [0, 1, 5]]
  | 3 => [.keep [0, 1, 5, 18]]
  | 4 => [.keep [4]]
  | 5 => [.keep [0, 1, 5]]
  | 6 => [.keep [0, 1, 23]]
  | 7 => [.keep [4]]
  | 8 => [.keep [0, 1, 6]]
  | 9 => [.keep [0, 1, 6, 7]]
  | 10 => [.keep [0, 1, 6, 7, 8]]
  | 11 => [.keep [0, 1, 6, 7, 8, 9]]
  | 12 => [.keep [0, 1, 6, 7, 8, 9, 39]]
  | 13 => [.keep [4]]
  | 14 => [.keep [0, 1, 6, 7, 8, 9, 44]]
  | 15 => [.keep [4]]
  | 16 => [.keep [0, 1, 6, 7, 8, 9, 49]]
  | 17 => [.keep [4]]
  | 18 => [.keep [0, 1, 6, 7, 8, 9, 10]]
  | 19 => [.keep [0, 1, 6, 8, 9, 10]]
  | 20 => [.keep [0, 1, 6, 9, 10]]
  | 21 => [.keep [0, 1, 6, 9, 63]]
  | 22 => [.keep [4]]
  | 23 => [.keep [0, 1, 6, 9, 11]]
  | 24 => [.keep [0, 1, 6, 9, 11]]
  | 25 => [.keep [0, 1, 6, 9, 11, 12]]
  | 26 => [.keep [0, 1, 6, 9, 11, 12]]
  | 27 => [.keep [0, 1, 6, 9, 11, 12, 71]]
  | 28 => [.keep [4]]
  | 29 => [.keep [0, 1, 6, 9, 11, 74]]
  | 30 => [.keep [4]]
  | 31 => [.keep [6, 9, 11, 13]]
  | 32 => [.keep [9, 11, 83]]
  | 33 => [.keep [4]]
  | 34 => [.keep [9, 11, 12]]
  | 35 => [.keep [11, 12]]
  | 36 => [.keep [11, 12, 88]]
  | 37 => [.keep [4]]
  | 38 => [.keep [91]]
  | 39 => [.keep [4]]
  | 40 => [.keep [4]]
  | _ => []
def L4 (aTables : (List (TTable).D)) (aGuards : (List (TGuard).D)) : Loops := fun id m st_ K => match id with
  | _ => False
theorem vc4 (aTables : (List (TTable).D)) (aGuards : (List (TGuard).D)) (K : AV → Hp → Prop) : awp C4 (L4 aTables aGuards) ann4 (bodyOf f4) ⟨argEnv 0 [.data (Ty.sl TTable) aTables, .data (Ty.sl TGuard) aGuards], []⟩ (outK tab true f4.results.toList (hasBox []) (resK (.dat Ty.bool) K)) =
  ((Ln (Ty.sl TTable) aTables) ∧ (0 ≤ (1048576 : Int)) ∧ ((1048576 : Int) ≤ 1048576) ∧ cond (decide ((M.szS M.szTable aTables (1048576 : Int)) < (0 : Int))) (K (.data Ty.bool true) []) ((Ln (Ty.sl TGuard) aGuards) ∧ (0 ≤ (M.szS M.szTable aTables (1048576 : Int))) ∧ ((M.szS M.szTable aTables (1048576 : Int)) ≤ 1048576) ∧ cond (decide ((M.szS M.szGuard aGuards (M.szS M.szTable aTables (1048576 : Int))) < (0 : Int))) (K (.data Ty.bool true) []) ((Sm (Ty.sl TTable) aTables) ∧ (∀ r_8_1 : (List (TTable).D), r_8_1 = (aTables) → (Sm (Ty.sl TGuard) aGuards) ∧ (∀ r_8_3 : (List (TGuard).D), r_8_3 = (aGuards) → (Sm (Ty.sl TTable) r_8_1) ∧ (Sm (Ty.sl TGuard) r_8_3) ∧ (∀ r_8_4 : (List (TTable).D), r_8_4 = (M.tablesSeen r_8_1 r_8_3) → (Sm (Ty.sl TTable) aTables) ∧ (∀ r_9_1 : (List (TTable).D), r_9_1 = (aTables) → (Sm (Ty.sl TGuard) aGuards) ∧ (∀ r_10_1 : (List (TGuard).D), r_10_1 = (aGuards) → (Sm (Ty.sl TTable) r_9_1) ∧ (Sm (Ty.sl TGuard) r_10_1) ∧ (∀ r_11_2 : (List (TTable).D), r_11_2 = (M.tablesSeen r_9_1 r_10_1) → (Sm (Ty.sl TTable) (cutList r_11_2 (some ((0 : Int), (r_11_2.length : Int))))) ∧ (Sm (Ty.sl TTable) r_8_4) ∧ ((cutList r_11_2 (some ((0 : Int), (r_11_2.length : Int)))) = r_8_4) ∧ cond (!(true)) (K (.data Ty.bool false) []) ((Sm (Ty.sl TTable) aTables) ∧ (∀ r_14_2 : (List (TTable).D), r_14_2 = (aTables) → (Sm (Ty.sl TTable) r_9_1) ∧ (Sm (Ty.sl TTable) r_14_2) ∧ (r_9_1 = r_14_2) ∧ cond (!(true)) (K (.data Ty.bool false) []) ((Sm (Ty.sl TGuard) aGuards) ∧ (∀ r_16_2 : (List (TGuard).D), r_16_2 = (aGuards) → (Sm (Ty.sl TGuard) r_10_1) ∧ (Sm (Ty.sl TGuard) r_16_2) ∧ (r_10_1 = r_16_2) ∧ cond (!(true)) (K (.data Ty.bool false) []) (((r_9_1.length : Int) = (r_9_1.length : Int)) ∧ (Ln (Ty.sl TTable) r_9_1) ∧ (0 ≤ (1 : Int)) ∧ ((1 : Int) + (M.count (Ty.sl TTable) r_9_1 : Int) ≤ M.big) ∧ (∀ r_19_2 : (List (TTable).D) × Int, r_19_2 = ((M.mark (Ty.sl TTable) r_9_1 (1 : Int), (1 : Int) + (M.count (Ty.sl TTable) r_9_1 : Int))) → (r_19_2.1.length = r_9_1.length) ∧ ((r_10_1.length : Int) = (r_10_1.length : Int)) ∧ (Ln (Ty.sl TGuard) r_10_1) ∧ (0 ≤ r_19_2.2) ∧ (r_19_2.2 + (M.count (Ty.sl TGuard) r_10_1 : Int) ≤ M.big) ∧ (∀ r_20_2 : (List (TGuard).D) × Int, r_20_2 = ((M.mark (Ty.sl TGuard) r_10_1 r_19_2.2, r_19_2.2 + (M.count (Ty.sl TGuard) r_10_1 : Int))) → (r_20_2.1.length = r_10_1.length) ∧ cond ((decide (r_20_2.2 < (0 : Int))) == false) ((Sm (Ty.sl TTable) (cutList r_11_2 (some ((0 : Int), (r_11_2.length : Int))))) ∧ (Sm (Ty.sl TTable) r_8_4) ∧ ((cutList r_11_2 (some ((0 : Int), (r_11_2.length : Int)))) = r_8_4) ∧ cond (!(true)) (K (.data Ty.bool false) []) (((r_11_2.length : Int) = (r_11_2.length : Int)) ∧ ((r_11_2.length : Int) = (r_11_2.length : Int)) ∧ (Ln (Ty.sl TTable) r_11_2) ∧ (0 ≤ (1 : Int)) ∧ ((1 : Int) + (M.count (Ty.sl TTable) r_11_2 : Int) ≤ M.big) ∧ (∀ r_24_2 : (List (TTable).D) × Int, r_24_2 = ((M.mark (Ty.sl TTable) r_11_2 (1 : Int), (1 : Int) + (M.count (Ty.sl TTable) r_11_2 : Int))) → (r_24_2.1.length = r_11_2.length) ∧ (Ln (Ty.sl TTable) (cutList r_24_2.1 (some ((0 : Int), (r_11_2.length : Int))))) ∧ (0 ≤ (1 : Int)) ∧ ((1 : Int) + (M.count (Ty.sl TTable) (cutList r_24_2.1 (some ((0 : Int), (r_11_2.length : Int)))) : Int) ≤ M.big) ∧ (M.mark (Ty.sl TTable) (cutList r_24_2.1 (some ((0 : Int), (r_11_2.length : Int)))) (1 : Int) = (cutList r_24_2.1 (some ((0 : Int), (r_11_2.length : Int))))) ∧ cond (decide (((1 : Int) + (M.count (Ty.sl TTable) (cutList r_24_2.1 (some ((0 : Int), (r_11_2.length : Int)))) : Int)) < (0 : Int))) (K (.data Ty.bool false) []) (cond (!decide (((1 : Int) + (M.count (Ty.sl TTable) (cutList r_24_2.1 (some ((0 : Int), (r_11_2.length : Int)))) : Int)) = r_24_2.2)) (K (.data Ty.bool false) []) ((Sm (Ty.sl TTable) aTables) ∧ (∀ r_31_1 : (List (TTable).D), r_31_1 = (aTables) → (Sm (Ty.sl TGuard) aGuards) ∧ (∀ r_31_3 : (List (TGuard).D), r_31_3 = (aGuards) → (Sm (Ty.sl TTable) r_31_1) ∧ (Sm (Ty.sl TGuard) r_31_3) ∧ (∀ r_31_4 : (List (TTable).D), r_31_4 = (M.tablesSeen r_31_1 r_31_3) → (Sm (Ty.sl TTable) (cutList r_31_4 (some ((0 : Int), (r_31_4.length : Int))))) ∧ (Sm (Ty.sl TTable) r_8_4) ∧ ((cutList r_31_4 (some ((0 : Int), (r_31_4.length : Int)))) = r_8_4) ∧ cond (!(true)) (K (.data Ty.bool false) []) ((Ln (Ty.sl TTable) (cutList r_24_2.1 (some ((0 : Int), (r_11_2.length : Int))))) ∧ (0 ≤ (1 : Int)) ∧ ((1 : Int) + (M.count (Ty.sl TTable) (cutList r_24_2.1 (some ((0 : Int), (r_11_2.length : Int)))) : Int) ≤ M.big) ∧ (M.mark (Ty.sl TTable) (cutList r_24_2.1 (some ((0 : Int), (r_11_2.length : Int)))) (1 : Int) = (cutList r_24_2.1 (some ((0 : Int), (r_11_2.length : Int))))) ∧ cond (decide (((1 : Int) + (M.count (Ty.sl TTable) (cutList r_24_2.1 (some ((0 : Int), (r_11_2.length : Int)))) : Int)) < (0 : Int))) (K (.data Ty.bool false) []) (cond (!decide (((1 : Int) + (M.count (Ty.sl TTable) (cutList r_24_2.1 (some ((0 : Int), (r_11_2.length : Int)))) : Int)) = r_24_2.2)) (K (.data Ty.bool false) []) (K (.data Ty.bool true) []))))))))))) (K (.data Ty.bool false) []))))))))))))))))) := by kernel_rfl
theorem con4_ok : ConOk P 4 c4 := by
  refine con_okR (fn := f4) (code := bodyOf f4) (tab_ok tab_check cmp_check) consOk4 mixed func4 rfl rfl fun args hp K h0 => ?_
  obtain ⟨a0, a1, rfl, rfl, h1⟩ := args2_elim h0
  obtain ⟨aTables, rfl, h2⟩ := withD_elim h1
  obtain ⟨aGuards, rfl, h3⟩ := withD_elim h2
  obtain ⟨h_aTables, h_aGuards, hK⟩ := h3
  have h : ok (F.laws_FnExactTablesSeen aTables aGuards) (fun r => K (.data Ty.bool r) []) := ok_of_eq (F.laws_FnExactTablesSeen_eq aTables aGuards h_aTables h_aGuards) hK
  refine ⟨⟨show (2 : Nat) ≤ 92 by decide, show (2 : Nat) ≤ 1000000 by decide⟩, ann4, (L4 aTables aGuards), (.dat Ty.bool), (no_loops (by kernel_rfl)), ?_⟩
  · rw [vc4 aTables aGuards K]
    exact ⟨h_aTables, ⟨(ok_guard h).1, have h := (ok_guard h).2; ⟨(ok_guard h).1, have h := (ok_guard h).2; (ok_cond h (fun b_3 h => (have h := ok_ret h; h)) (fun b_3 h => ⟨h_aGuards, ⟨(ok_guard h).1, have h := (ok_guard h).2; ⟨(ok_guard h).1, have h := (ok_guard h).2; (ok_cond h (fun b_6 h => (have h := ok_ret h; h)) (fun b_6 h => ⟨(ok_guard h).1, have g_7 := (ok_guard h).1; have h := (ok_guard h).2; (fun r_8_1 e_r_8_1 => have h := ok_let h r_8_1 e_r_8_1; ⟨(ok_guard h).1, have g_8 := (ok_guard h).1; have h := (ok_guard h).2; (fun r_8_3 e_r_8_3 => have h := ok_let h r_8_3 e_r_8_3; ⟨(ok_guard h).1, have h := (ok_guard h).2; ⟨(ok_guard h).1, have h := (ok_guard h).2; (fun r_8_4 e_r_8_4 => have h := ok_let h r_8_4 e_r_8_4; ⟨g_7, (fun r_9_1 e_r_9_1 => have h := ok_let h r_9_1 e_r_9_1; ⟨g_8, (fun r_10_1 e_r_10_1 => have h := ok_let h r_10_1 e_r_10_1; ⟨(ok_guard h).1, have g_11 := (ok_guard h).1; have h := (ok_guard h).2; ⟨(ok_guard h).1, have g_12 := (ok_guard h).1; have h := (ok_guard h).2; (fun r_11_2 e_r_11_2 => have h := ok_let h r_11_2 e_r_11_2; ⟨(ok_guard h).1, have g_13 := (ok_guard h).1; have h := (ok_guard h).2; ⟨(ok_guard h).1, have g_14 := (ok_guard h).1; have h := (ok_guard h).2; ⟨(ok_guard h).1, have g_15 := (ok_guard h).1; have h := (ok_guard h).2; (ok_cond h (fun b_16 h => (have h := ok_ret h; h)) (fun b_16 h => ⟨g_7, (fun r_14_2 e_r_14_2 => have h := ok_let h r_14_2 e_r_14_2; ⟨g_11, ⟨(ok_guard h).1, have h := (ok_guard h).2; ⟨(ok_guard h).1, have h := (ok_guard h).2; (cond_f (unf (bnf b_16)) ⟨g_8, (fun r_16_2 e_r_16_2 => have h := ok_let h r_16_2 e_r_16_2; ⟨g_12, ⟨(ok_guard h).1, have h := (ok_guard h).2; ⟨(ok_guard h).1, have h := (ok_guard h).2; (cond_f (unf (bnf b_16)) ⟨rfl, ⟨(ok_guard h).1, have h := (ok_guard h).2; ⟨(ok_guard h).1, have g_24 := (ok_guard h).1; have h := (ok_guard h).2; ⟨(ok_guard h).1, have h := (ok_guard h).2; (fun r_19_2 e_r_19_2 => have h := ok_let h r_19_2 e_r_19_2; ⟨(by rw [e_r_19_2]; exact (M.mark_len TTable _ _)), ⟨rfl, ⟨(ok_guard h).1, have h := (ok_guard h).2; ⟨(ok_guard h).1, have h := (ok_guard h).2; ⟨(ok_guard h).1, have h := (ok_guard h).2; (fun r_20_2 e_r_20_2 => have h := ok_let h r_20_2 e_r_20_2; ⟨(by rw [e_r_20_2]; exact (M.mark_len TGuard _ _)), (ok_cond h (fun b_29 h => ⟨g_13, ⟨g_14, ⟨g_15, (cond_f (unf (bnf b_16)) ⟨rfl, ⟨rfl, ⟨(ok_guard h).1, have h := (ok_guard h).2; ⟨g_24, ⟨(ok_guard h).1, have h := (ok_guard h).2; (fun r_24_2 e_r_24_2 => have h := ok_let h r_24_2 e_r_24_2; ⟨(by rw [e_r_24_2]; exact (M.mark_len TTable _ _)), ⟨(ok_guard h).1, have g_33 := (ok_guard h).1; have h := (ok_guard h).2; ⟨g_24, ⟨(ok_guard h).1, have g_34 := (ok_guard h).1; have h := (ok_guard h).2; ⟨(ok_guard h).1, have g_35 := (ok_guard h).1; have h := (ok_guard h).2; (ok_cond h (fun b_36 h => (have h := ok_ret h; h)) (fun b_36 h => (ok_cond h (fun b_37 h => (have h := ok_ret h; h)) (fun b_37 h => ⟨g_7, (fun r_31_1 e_r_31_1 => have h := ok_let h r_31_1 e_r_31_1; ⟨g_8, (fun r_31_3 e_r_31_3 => have h := ok_let h r_31_3 e_r_31_3; ⟨(ok_guard h).1, have h := (ok_guard h).2; ⟨(ok_guard h).1, have h := (ok_guard h).2; (fun r_31_4 e_r_31_4 => have h := ok_let h r_31_4 e_r_31_4; ⟨(ok_guard h).1, have h := (ok_guard h).2; ⟨g_14, ⟨(ok_guard h).1, have h := (ok_guard h).2; (cond_f (unf (bnf b_16)) ⟨g_33, ⟨g_24, ⟨g_34, ⟨g_35, (cond_f b_36 (cond_f (unf (bnf b_37)) (have h := ok_ret h; h)))⟩⟩⟩⟩)⟩⟩⟩)⟩⟩)⟩)⟩))))⟩⟩⟩⟩⟩)⟩⟩⟩⟩⟩)⟩⟩⟩) (fun b_29 h => (have h := ok_ret h; h)))⟩)⟩⟩⟩⟩⟩)⟩⟩⟩⟩)⟩⟩⟩)⟩)⟩⟩⟩)⟩))⟩⟩⟩)⟩⟩)⟩)⟩)⟩⟩)⟩)⟩))⟩⟩⟩))⟩⟩⟩

end Go.AE
