/- Contracts. -/
import Derived.Test.YtnhbbkkbpenlbaaGreatAeSeat
import Derived.Test.YtnhbbkkbpenlbaaGreatAeEq
import Derived.Test.YtnhbbkkbpenlbaaGreatAeInl
import Derived.Test.YtnhbbkkbpenlbaaGreatAeC0
namespace Go.AE
open Go Go.RowKit Go.Proofs.Tryz
set_option maxRecDepth 100000
set_option linter.unusedVariables false
def c100 : Con := ⟨[.dat (Ty.sl TColumn), .dat (Ty.sl TPart)], fun args hp K => args2 (fun a0 a1 => withD (Ty.sl TColumn) a0 fun columns => withD (Ty.sl TPart) a1 fun e => (Sm (Ty.sl TColumn) columns) ∧ (Sm (Ty.sl TPart) e) ∧ K (.data TInt (M.exprKind columns e)) []) args hp, .plain⟩
def cons100 : Cons := [(131, c131), (133, c133), (134, c134), (135, c135)]
@[reducible] def C100 : Ctx := ⟨tab, fun t => memN t cmps, cons100, 67, [], 0, false⟩
theorem consOk100 : ConsOk P C100 := by
 refine consOk_cons (enter_ok (fn := f131) func131 (by kernel_rfl) rfl) con131_ok ?_
 refine consOk_cons (enter_ok (fn := f133) func133 (by kernel_rfl) rfl) con133_ok ?_
 refine consOk_cons (enter_ok (fn := f134) func134 (by kernel_rfl) rfl) con134_ok ?_
 refine consOk_cons (enter_ok (fn := f135) func135 (by kernel_rfl) rfl) con135_ok ?_
 exact consOk_nil
def ann100 : Nat → List Dir
 | 0 => [.keep [0, 1]]
 | 1 => [.keep [0, 1, 18]]
 | 2 => [.keep [4]]
 | 3 => [.keep [0, 1, 5]]
 | 4 => [.keep [0, 5, 19, 20, 21]]
 | 5 => [.keep [0, 5, 19, 20, 21, 22]]
 | 6 => [.fixRow 7 TPart, .keep [0, 5, 7, 19, 20, 21]]
 | 7 => [.keep [0, 5, 7, 8, 19, 20, 21]]
 | 8 => [.keep [0, 5, 7, 8, 19, 20, 21, 36]]
 | 9 => [.keep [4]]
 | 10 => [.keep [0, 5, 8, 9, 10, 19, 20, 21]]
 | 11 => [.keep [0, 5, 8, 9, 19, 20, 21, 50]]
 | 12 => [.keep [4]]
 | 13 => [.keep [0, 5, 19, 20, 21]]
 | 14 => [.keep [0, 5, 19, 20, 21]]
 | 15 => [.keep [5, 63]]
 | 16 => [.keep [4]]
 | 17 => [.keep [4]]
 | 100000 => [.keep [5]]
 | _ => []
@[reducible] def LP100_0 (columns : (List (TColumn).D)) (e : (List (TPart).D)) (m : Nat) (st_ : St) (K : X → St → Prop) : Prop := (True) ∧ LoopE (t := TPart) (fun (i0 : Int) (v0 : (List Int)) => (⟨[(0, .data (Ty.sl TColumn) columns), (5, .own 5 none), (19, .data (Ty.sl TPart) e), (20, .data TInt (e.length : Int)), (21, .data TInt i0)], [(5, .arr false TInt v0)]⟩ : St)) e (F.impl_ExprKind_l0 columns e) (fun v0 : (List Int) => True) (outD (fun v0 : (List Int) => True → K (.exit 0) (⟨[(5, .own 5 none)], [(5, .arr false TInt v0)]⟩ : St)) (fun q0 : Unit => K .ret (⟨[(4, .data TInt (-1 : Int))], []⟩ : St))) m st_
def L100 (columns : (List (TColumn).D)) (e : (List (TPart).D)) : Loops := fun id m st_ K => match id with
 | 0 => LP100_0 columns e m st_ K
 | _ => False
theorem vc100 (columns : (List (TColumn).D)) (e : (List (TPart).D)) (K : AV → Hp → Prop) : awp C100 (L100 columns e) ann100 (bodyOf f100) ⟨argEnv 0 [.data (Ty.sl TColumn) columns, .data (Ty.sl TPart) e], []⟩ (outK tab false f100.results.toList (hasBox []) (resK (.dat TInt) K)) =
 ((Sm (Ty.sl TColumn) columns) ∧ cond ((!(M.columnsOk columns)) == false) (cond (decide ((12 : Int) < (e.length : Int))) (K (.data TInt (-1 : Int)) []) ((∃ m_, (True) ∧ LoopE (t := TPart) (fun (i0 : Int) (v0 : (List Int)) => (⟨[(0, .data (Ty.sl TColumn) columns), (5, .own 5 none), (19, .data (Ty.sl TPart) e), (20, .data TInt (e.length : Int)), (21, .data TInt i0)], [(5, .arr false TInt v0)]⟩ : St)) e (F.impl_ExprKind_l0 columns e) (fun v0 : (List Int) => True) (outD (fun v0 : (List Int) => True → cond (!decide ((v0.length : Int) = (1 : Int))) (K (.data TInt (-1 : Int)) []) ((0 ≤ (0 : Int)) ∧ ((0 : Int) < (v0.length : Int)) ∧ K (.data TInt (nth (t := TInt) v0 (0 : Int))) [])) (fun q0 : Unit => K (.data TInt (-1 : Int)) [])) m_ (⟨[(0, .data (Ty.sl TColumn) columns), (5, .own 5 none), (19, .data (Ty.sl TPart) e), (20, .data TInt (e.length : Int)), (21, .data TInt (0 : Int))], [(5, .arr false TInt [])]⟩ : St)))) (K (.data TInt (-1 : Int)) [])) := by kernel_rfl
theorem lvc100_0 (columns : (List (TColumn).D)) (e : (List (TPart).D))  (i0 : Int) (v0 : (List Int)) (m : Nat) (K : X → St → Prop) : awp C100 (L100 columns e) ann100 (loopAt (bodyOf f100) 0) (⟨[(0, .data (Ty.sl TColumn) columns), (5, .own 5 none), (19, .data (Ty.sl TPart) e), (20, .data TInt (e.length : Int)), (21, .data TInt i0)], [(5, .arr false TInt v0)]⟩ : St) (thenW (fun s' => ∃ m', m' < m ∧ (L100 columns e) 0 m' s' K) (exitN 0 (ann100 (behind 0)) K)) =
 (cond (decide (i0 < (e.length : Int))) ((0 ≤ i0) ∧ (i0 < (e.length : Int)) ∧ (Sm TPart (nth (t := TPart) e i0)) ∧ (Sm TPart (nth (t := TPart) e i0)) ∧ (Sm (Ty.sl TColumn) columns) ∧ cond ((!(M.tells (nth (t := TPart) e i0) columns)) == false) (cond (decide ((v0.length : Int) < (M.takes (nth (t := TPart) e i0)))) (K .ret (⟨[(4, .data TInt (-1 : Int))], []⟩ : St)) ((0 ≤ wrap64 ((v0.length : Int) - (M.takes (nth (t := TPart) e i0)))) ∧ (wrap64 ((v0.length : Int) - (M.takes (nth (t := TPart) e i0))) ≤ (v0.length : Int)) ∧ ((v0.length : Int) ≤ (v0.length : Int)) ∧ ((v0.length : Int) = (v0.length : Int)) ∧ (Sm TPart (nth (t := TPart) e i0)) ∧ (Sm (Ty.sl TColumn) columns) ∧ (Sm (Ty.sl TInt) (cutList v0 (some (wrap64 ((v0.length : Int) - (M.takes (nth (t := TPart) e i0))), (v0.length : Int))))) ∧ (M.tells (nth (t := TPart) e i0) columns = true) ∧ (((cutList v0 (some (wrap64 ((v0.length : Int) - (M.takes (nth (t := TPart) e i0))), (v0.length : Int)))).length : Int) = M.takes (nth (t := TPart) e i0)) ∧ (∀ r_10_8 : Int × Bool, r_10_8 = (M.partKind (nth (t := TPart) e i0) columns (cutList v0 (some (wrap64 ((v0.length : Int) - (M.takes (nth (t := TPart) e i0))), (v0.length : Int))))) → cond (!r_10_8.2) (K .ret (⟨[(4, .data TInt (-1 : Int))], []⟩ : St)) ((0 ≤ (0 : Int)) ∧ ((0 : Int) ≤ wrap64 ((v0.length : Int) - (M.takes (nth (t := TPart) e i0)))) ∧ (wrap64 ((v0.length : Int) - (M.takes (nth (t := TPart) e i0))) ≤ (v0.length : Int)) ∧ (wrap64 ((v0.length : Int) - (M.takes (nth (t := TPart) e i0))) = wrap64 ((v0.length : Int) - (M.takes (nth (t := TPart) e i0)))) ∧ ((0 : Int) = 0) ∧ (((wrap64 ((v0.length : Int) - (M.takes (nth (t := TPart) e i0)))).toNat + [r_10_8.1].length) * 8 ≤ lim) ∧ (∃ m_, m_ < m ∧ (L100 columns e) 0 m_ (⟨[(0, .data (Ty.sl TColumn) columns), (5, .own 5 none), (19, .data (Ty.sl TPart) e), (20, .data TInt (e.length : Int)), (21, .data TInt (wrap64 (i0 + (1 : Int))))], [(5, .arr false TInt (v0.take (wrap64 ((v0.length : Int) - (M.takes (nth (t := TPart) e i0)))).toNat ++ [r_10_8.1]))]⟩ : St) K))))) (K .ret (⟨[(4, .data TInt (-1 : Int))], []⟩ : St))) (K (.exit 0) (⟨[(5, .own 5 none)], [(5, .arr false TInt v0)]⟩ : St))) := by kernel_rfl
theorem con100_ok : ConOk P 100 c100 := by
 refine con_okR (fn := f100) (code := bodyOf f100) (tab_ok tab_check cmp_check) consOk100 mixed func100 rfl rfl fun args hp K h0 => ?_
 obtain ⟨a0, a1, rfl, rfl, h1⟩ := args2_elim h0
 obtain ⟨columns, rfl, h2⟩ := withD_elim h1
 obtain ⟨e, rfl, h3⟩ := withD_elim h2
 obtain ⟨h_columns, h_e, hK⟩ := h3
 have h : ok (F.impl_ExprKind columns e) (fun r => K (.data TInt r) []) := ok_of_eq (F.impl_ExprKind_eq columns e h_columns h_e) hK
 refine ⟨⟨show (2 : Nat) ≤ 67 by decide, show (2 : Nat) ≤ 1000000 by decide⟩, ann100, (L100 columns e), (.dat TInt), (loopsN1 (i0 := 0) (by kernel_rfl) ?_), ?_⟩
 ·clear h
  intro m_ s_ K_ h
  obtain ⟨hc0, i0, v0, rfl, hl0, rfl, hv0, h⟩ := (show LP100_0 columns e m_ s_ K_ from h)
  rw [lvc100_0 columns e i0 v0 _ K_]
  exact (loopE_step (t := TPart) hl0 h (fun ht0 h => ⟨hl0, ⟨ht0, ⟨(sm_nth h_e i0), ⟨(sm_nth h_e i0), ⟨h_columns, (ok_cond h (fun b_37 h => (ok_cond h (fun b_38 h => (ok_ret h :)) (fun b_38 h => ⟨(ok_guard h).1, have h := (ok_guard h).2; ⟨(ok_guard h).1, have g_40 := (ok_guard h).1; have h := (ok_guard h).2; ⟨(Int.le_refl _), ⟨rfl, ⟨(sm_nth h_e i0), ⟨h_columns, ⟨(ok_guard h).1, have h := (ok_guard h).2; ⟨(bnf (bgt b_37)), ⟨(ok_guard h).1, have h := (ok_guard h).2; (fun r_10_8 e_r_10_8 => have h := ok_let h r_10_8 e_r_10_8; (ok_cond h (fun b_43 h => (ok_ret h :)) (fun b_43 h => ⟨(Int.natCast_nonneg 0), ⟨(ok_guard h).1, have h := (ok_guard h).2; ⟨g_40, ⟨rfl, ⟨rfl, ⟨(ok_guard h).1, have h := (ok_guard h).2; (loopE_next (t := TPart) (fun m hm => (show LP100_0 columns e m _ _ from ⟨hc0, hm⟩)) (v0.take (wrap64 ((v0.length : Int) - (M.takes (nth (t := TPart) e i0)))).toNat ++ [r_10_8.1]) rfl hl0 ht0 (sm_len h_e) trivial (ok_ret h :))⟩⟩⟩⟩⟩⟩)))⟩⟩⟩⟩⟩⟩⟩⟩⟩))) (fun b_37 h => (ok_ret h :)))⟩⟩⟩⟩⟩) (fun h => (h trivial)))
 ·rw [vc100 columns e K]
  exact ⟨h_columns, (ok_cond h (fun b_1 h => (ok_cond h (fun b_2 h => (ok_ret h :)) (fun b_2 h => (loopE_start (t := TPart) (fun m hm => ⟨trivial, hm⟩) [] rfl trivial (ok_then h (fun v0 h hv0 => (ok_cond h (fun b_46 h => (ok_ret h :)) (fun b_46 h => ⟨(Int.natCast_nonneg 0), ⟨(ok_guard h).1, have h := (ok_guard h).2; (ok_ret h :)⟩⟩))) (fun q0 h => (ok_ret h :))))))) (fun b_1 h => (ok_ret h :)))⟩
def cons175 : Cons := []
@[reducible] def C175 : Ctx := ⟨tab, fun t => memN t cmps, cons175, 9, [], 400000, true⟩
theorem consOk175 : ConsOk P C175 := by
 exact consOk_nil
def T175 : Inl := inlT C175 (fun _ => []) (bodyOf f175) f175.results.toList
theorem inlOk175 : InlOk P 175 T175 := inl_ok (fn := f175) (code := bodyOf f175) (tab_ok tab_check cmp_check) consOk175 mixed func175 rfl rfl (by kernel_rfl)
def c136 : Con := ⟨[.dat (Ty.sl TColumn)], fun args hp K => args1 (fun a0 => withD (Ty.sl TColumn) a0 fun xs => (Sm (Ty.sl TColumn) xs) ∧ (∀ r : (List (TColumn).D), r = (xs) → K (.clp 0 (r.length : Int)) [(0, .arr false TColumn r)])) args hp, .bor⟩
def cons136 : Cons := []
@[reducible] def C136 : Ctx := ⟨tab, fun t => memN t cmps, cons136, 9, [(175, T175)], 0, true⟩
theorem consOk136 : ConsOk P C136 := by
 refine consOk_inl (enter_ok (fn := f175) func175 (by kernel_rfl) rfl) inlOk175 ?_
 exact consOk_nil
def ann136 : Nat → List Dir
 | 0 => [.keep [0]]
 | 1 => [.keep [0, 5]]
 | 2 => [.clip 2, .keep [2]]
 | 3 => [.keep [2]]
 | _ => []
def L136 (xs : (List (TColumn).D)) : Loops := fun id m st_ K => match id with
 | _ => False
theorem vc136 (xs : (List (TColumn).D)) (K : AV → Hp → Prop) : awp C136 (L136 xs) ann136 (bodyOf f136) ⟨argEnv 0 [.data (Ty.sl TColumn) xs], []⟩ (outK tab true f136.results.toList (hasBox []) (resK .raw K)) =
 (cond (decide ((xs.length : Int) = (0 : Int))) (K (.clp 0 (([] : List TColumn.D).length : Int)) [(0, .arr false TColumn ([] : List TColumn.D))]) ((xs.length * 16 ≤ lim) ∧ (0 ≤ (0 : Int)) ∧ ((0 : Int) ≤ (xs.length : Int)) ∧ ((xs.length : Int) ≤ (xs.length : Int)) ∧ ((xs.length : Int) = (xs.length : Int)) ∧ ((0 : Int) = 0) ∧ K (.clp 0 ((xs.take (xs.length : Int).toNat).length : Int)) [(0, .arr false TColumn (xs.take (xs.length : Int).toNat))])) := by kernel_rfl
theorem con136_ok : ConOk P 136 c136 := by
 refine con_okR (fn := f136) (code := bodyOf f136) (tab_ok tab_check cmp_check) consOk136 mixed func136 rfl rfl fun args hp K h0 => ?_
 obtain ⟨a0, rfl, rfl, h1⟩ := args1_elim h0
 obtain ⟨xs, rfl, h2⟩ := withD_elim h1
 obtain ⟨h_xs, hK⟩ := h2
 have h : ok (F.clone_TColumn xs) (fun r => K (.clp 0 (r.length : Int)) [(0, .arr false TColumn r)]) := ok_of_eq (F.clone_TColumn_eq xs h_xs) (hK _ rfl)
 refine ⟨⟨show (1 : Nat) ≤ 9 by decide, show (1 : Nat) ≤ 1000000 by decide⟩, ann136, (L136 xs), .raw, (no_loops (by kernel_rfl)), ?_⟩
 ·rw [vc136 xs K]
  exact (ok_cond h (fun b_1 h => (ok_ret h :)) (fun b_1 h => ⟨(sm_lim h_xs rfl), ⟨(Int.natCast_nonneg 0), ⟨(Int.natCast_nonneg _), ⟨(Int.le_refl _), ⟨rfl, ⟨rfl, (ok_ret h :)⟩⟩⟩⟩⟩⟩))
def c155 : Con := ⟨[.dat TStep], fun args hp K => args1 (fun a0 => withD TStep a0 fun s => (Sm TStep s) ∧ K (.data Ty.bool (M.fieldsOk s)) []) args hp, .plain⟩
def cons155 : Cons := []
@[reducible] def C155 : Ctx := ⟨tab, fun t => memN t cmps, cons155, 67, [], 0, false⟩
theorem consOk155 : ConsOk P C155 := by
 exact consOk_nil
def ann155 : Nat → List Dir
 | 0 => [.fixRow 1 TStep, .keep [1]]
 | 1 => [.keep [1, 3]]
 | 2 => [.keep [1, 3, 4]]
 | 3 => [.keep [2]]
 | _ => []
def L155 (s : (TStep).D) : Loops := fun id m st_ K => match id with
 | _ => False
@[reducible] def S155_0 (s : (TStep).D) (K : AV → Hp → Prop) : Prop := cond ((decide (s.1 = (3 : Int))) == false) (K (.data Ty.bool (decide ((s.2.2.2.2.2.1.length : Int) = (0 : Int)))) []) (K (.data Ty.bool true) [])
@[reducible] def S155_1 (s : (TStep).D) (K : AV → Hp → Prop) : Prop := cond ((decide (s.1 = (4 : Int))) == false) (cond ((decide ((s.2.2.2.2.1.length : Int) = (0 : Int))) == true) ((S155_0 s K)) (K (.data Ty.bool false) [])) ((S155_0 s K))
@[reducible] def S155_2 (s : (TStep).D) (K : AV → Hp → Prop) : Prop := cond ((decide (s.1 = (1 : Int))) == false) (cond ((decide (s.2.2.2.1 = (0 : Int))) == true) ((S155_1 s K)) (K (.data Ty.bool false) [])) ((S155_1 s K))
@[reducible] def S155_3 (s : (TStep).D) (K : AV → Hp → Prop) : Prop := cond ((decide (s.1 = (5 : Int))) == false) (cond ((decide (s.2.2.1 = (0 : Int))) == true) ((S155_2 s K)) (K (.data Ty.bool false) [])) ((S155_2 s K))
@[reducible] def S155_4 (s : (TStep).D) (K : AV → Hp → Prop) : Prop := cond ((decide (s.1 = (1 : Int))) == false) (cond ((decide (s.2.2.2.1 = (0 : Int))) == true) ((S155_0 s K)) (K (.data Ty.bool false) [])) ((S155_0 s K))
@[reducible] def S155_5 (s : (TStep).D) (K : AV → Hp → Prop) : Prop := cond ((decide (s.1 = (5 : Int))) == false) (cond ((decide (s.2.2.1 = (0 : Int))) == true) ((S155_4 s K)) (K (.data Ty.bool false) [])) ((S155_4 s K))
theorem vc155 (s : (TStep).D) (K : AV → Hp → Prop) : awp C155 (L155 s) ann155 (bodyOf f155) ⟨argEnv 0 [.data TStep s], []⟩ (outK tab false f155.results.toList (hasBox []) (resK (.dat Ty.bool) K)) =
 (cond ((decide (s.1 = (4 : Int))) == false) (cond ((decide (s.1 = (2 : Int))) == false) (cond ((!decide (s.1 = (1 : Int))) == false) (cond ((decide (s.2.1 = (0 : Int))) == true) ((S155_3 s K)) (K (.data Ty.bool false) [])) ((S155_3 s K))) (cond ((!decide (s.1 = (1 : Int))) == false) (cond ((decide (s.2.1 = (0 : Int))) == true) ((S155_5 s K)) (K (.data Ty.bool false) [])) ((S155_5 s K)))) (cond ((decide (s.1 = (2 : Int))) == false) (cond ((!decide (s.1 = (1 : Int))) == false) (cond ((decide (s.2.1 = (0 : Int))) == true) ((S155_2 s K)) (K (.data Ty.bool false) [])) ((S155_2 s K))) (cond ((!decide (s.1 = (1 : Int))) == false) (cond ((decide (s.2.1 = (0 : Int))) == true) ((S155_4 s K)) (K (.data Ty.bool false) [])) ((S155_4 s K))))) := by kernel_rfl
theorem con155_ok : ConOk P 155 c155 := by
 refine con_okR (fn := f155) (code := bodyOf f155) (tab_ok tab_check cmp_check) consOk155 mixed func155 rfl rfl fun args hp K h0 => ?_
 obtain ⟨a0, rfl, rfl, h1⟩ := args1_elim h0
 obtain ⟨s, rfl, h2⟩ := withD_elim h1
 obtain ⟨h_s, hK⟩ := h2
 have h : ok (F.impl_Step_plain s) (fun r => K (.data Ty.bool r) []) := ok_of_eq (F.impl_Step_plain_eq s h_s) hK
 refine ⟨⟨show (1 : Nat) ≤ 67 by decide, show (1 : Nat) ≤ 1000000 by decide⟩, ann155, (L155 s), (.dat Ty.bool), (no_loops (by kernel_rfl)), ?_⟩
 ·rw [vc155 s K]
  exact (ok_cond h (fun b_1 h => (ok_cond h (fun b_2 h => (ok_cond h (fun b_3 h => (ok_cond h (fun b_4 h => (cond_t (ugt (dec_ne (bnf (bgt b_3)) (by decide))) (ok_cond h (fun b_6 h => (cond_f (ugf (bnf (bgt b_3))) (cond_t (ugt (bgt b_1)) (ok_cond h (fun b_14 h => (cond_t (ugt (dec_ne (bnf (bgt b_3)) (by decide))) (ok_ret h :))) (fun b_14 h => (ok_ret h :)))))) (fun b_6 h => (ok_ret h :))))) (fun b_4 h => (ok_ret h :)))) (fun b_3 h => (ok_cond h (fun b_27 h => (ok_cond h (fun b_28 h => (cond_t (ugt (bnt (bgf b_3))) (ok_cond h (fun b_30 h => (cond_t (ugt (bgt b_1)) (ok_cond h (fun b_32 h => (ok_cond h (fun b_33 h => (ok_ret h :)) (fun b_33 h => (ok_ret h :)))) (fun b_32 h => (ok_ret h :))))) (fun b_30 h => (ok_ret h :))))) (fun b_28 h => (ok_ret h :)))) (fun b_27 h => (cond_t (ugt (bnt (bgf b_3))) (ok_cond h (fun b_40 h => (cond_t (ugt (bgt b_1)) (ok_cond h (fun b_42 h => (cond_t (ugt (dec_ne (bgf b_27) (by decide))) (ok_ret h :))) (fun b_42 h => (ok_ret h :))))) (fun b_40 h => (ok_ret h :))))))))) (fun b_2 h => (cond_f (ugf (unt (dec_ne (bgf b_2) (by decide)))) (cond_t (ugt (dec_ne (bgf b_2) (by decide))) (ok_cond h (fun b_62 h => (cond_t (ugt (dec_ne (bgf b_2) (by decide))) (ok_cond h (fun b_64 h => (cond_t (ugt (dec_ne (bgf b_2) (by decide))) (ok_ret h :))) (fun b_64 h => (ok_ret h :))))) (fun b_62 h => (ok_ret h :)))))))) (fun b_1 h => (cond_t (ugt (dec_ne (bgf b_1) (by decide))) (cond_f (ugf (unt (dec_ne (bgf b_1) (by decide)))) (cond_t (ugt (dec_ne (bgf b_1) (by decide))) (ok_cond h (fun b_85 h => (cond_f (ugf (bgf b_1)) (cond_t (ugt (dec_ne (bgf b_1) (by decide))) (ok_ret h :)))) (fun b_85 h => (ok_ret h :))))))))
def c191 : Con := ⟨[.any, .dat TInt], fun args hp K => args2 (fun a0 a1 => withN a0 (withD TInt a1 fun n => (0 ≤ n) ∧ (n ≤ 1099511627776) ∧ (∀ r : (List (TColumn).D), r = (([] : List TColumn.D)) → K (.own 0 none) [(0, .arr false TColumn r)]))) args hp, .plain⟩
def cons191 : Cons := []
@[reducible] def C191 : Ctx := ⟨tab, fun t => memN t cmps, cons191, 27, [], 0, false⟩
theorem consOk191 : ConsOk P C191 := by
 exact consOk_nil
def ann191 : Nat → List Dir
 | 0 => [.keep [0, 1]]
 | 1 => [.keep [0, 1, 6]]
 | 2 => [.keep [0, 1]]
 | 3 => [.keep [0, 1]]
 | 4 => [.keep [0, 1, 16]]
 | 5 => [.keep [0]]
 | 6 => [.keep [4]]
 | _ => []
def L191 (n : Int) : Loops := fun id m st_ K => match id with
 | _ => False
theorem vc191 (n : Int) (K : AV → Hp → Prop) : awp C191 (L191 n) ann191 (bodyOf f191) ⟨argEnv 0 [.cst (.slice none 0 0), .data TInt n], []⟩ (outK tab false f191.results.toList (hasBox []) (resK .raw K)) =
 (cond (decide (n < (0 : Int))) (False) (cond (decide ((0 : Int) < wrap64 (n - (wrap64 ((0 : Int) - (0 : Int)))))) ((0 ≤ (0 : Int)) ∧ ((0 : Int) ≤ (0 : Int)) ∧ ((0 : Int) ≤ (0 : Int)) ∧ ((0 : Int) = (0 : Int)) ∧ (0 ≤ wrap64 (n - (wrap64 ((0 : Int) - (0 : Int))))) ∧ ((wrap64 (n - (wrap64 ((0 : Int) - (0 : Int))))) * 16 ≤ (lim : Int)) ∧ (0 ≤ (0 : Int)) ∧ ((0 : Int) ≤ (0 : Int)) ∧ ((0 : Int) ≤ ((List.replicate (wrap64 (n - (wrap64 ((0 : Int) - (0 : Int))))).toNat ((0 : Int), (false, ()))).length : Int)) ∧ ((0 : Int) = (0 : Int)) ∧ ((0 : Int) = 0) ∧ K (.own 0 none) [(0, .arr false TColumn ((List.replicate (wrap64 (n - (wrap64 ((0 : Int) - (0 : Int))))).toNat ((0 : Int), (false, ()))).take (0 : Int).toNat))]) (K (.own 0 none) [(0, .arr false TColumn [])]))) := by kernel_rfl
theorem con191_ok : ConOk P 191 c191 := by
 refine con_okR (fn := f191) (code := bodyOf f191) (tab_ok tab_check cmp_check) consOk191 mixed func191 rfl rfl fun args hp K h0 => ?_
 obtain ⟨a0, a1, rfl, rfl, h1⟩ := args2_elim h0
 obtain ⟨rfl, h2⟩ := withN_elim h1
 obtain ⟨n, rfl, h3⟩ := withD_elim h2
 obtain ⟨p0, p1, hK⟩ := h3
 have h : ok (F.Grow_TColumn n) (fun r => K (.own 0 none) [(0, .arr false TColumn r)]) := ok_of_eq (F.Grow_TColumn_eq n p0 p1) (hK _ rfl)
 refine ⟨⟨show (2 : Nat) ≤ 27 by decide, show (2 : Nat) ≤ 1000000 by decide⟩, ann191, (L191 n), .raw, (no_loops (by kernel_rfl)), ?_⟩
 ·rw [vc191 n K]
  exact (ok_cond h (fun b_1 h => h) (fun b_1 h => (ok_cond h (fun b_2 h => ⟨(Int.natCast_nonneg 0), ⟨(Int.le_refl _), ⟨(Int.le_refl _), ⟨rfl, ⟨(ok_guard h).1, have h := (ok_guard h).2; ⟨(ok_guard h).1, have h := (ok_guard h).2; ⟨(Int.natCast_nonneg 0), ⟨(Int.le_refl _), ⟨(Int.natCast_nonneg _), ⟨rfl, ⟨rfl, (ok_ret h :)⟩⟩⟩⟩⟩⟩⟩⟩⟩⟩⟩) (fun b_2 h => (ok_ret h :)))))
def c156 : Con := ⟨[.dat (Ty.sl (Ty.sl TColumn))], fun args hp K => args1 (fun a0 => withD (Ty.sl (Ty.sl TColumn)) a0 fun xss => (Sm (Ty.sl (Ty.sl TColumn)) xss) ∧ (∀ r : (List (TColumn).D), r = (List.flatten xss) → K (.own 0 none) [(0, .arr false TColumn r)])) args hp, .plain⟩
def cons156 : Cons := [(191, c191)]
@[reducible] def C156 : Ctx := ⟨tab, fun t => memN t cmps, cons156, 36, [], 0, false⟩
theorem consOk156 : ConsOk P C156 := by
 refine consOk_cons (enter_ok (fn := f191) func191 (by kernel_rfl) rfl) con191_ok ?_
 exact consOk_nil
def ann156 : Nat → List Dir
 | 0 => [.keep [0]]
 | 1 => [.keep [0, 3]]
 | 2 => [.keep [0, 3, 9, 10, 11]]
 | 3 => [.keep [0, 3, 9, 10, 11, 12]]
 | 4 => [.keep [0, 3, 5, 9, 10, 11]]
 | 5 => [.keep [0, 3, 9, 10, 11]]
 | 6 => [.keep [0, 3, 9, 10, 11, 20]]
 | 7 => [.keep [0, 3, 9, 10, 11]]
 | 8 => [.keep [0, 3, 9, 10, 11]]
 | 9 => [.keep [0, 6]]
 | 10 => [.keep [6, 25, 26, 27]]
 | 11 => [.keep [6, 25, 26, 27, 28]]
 | 12 => [.keep [6, 8, 25, 26, 27]]
 | 13 => [.keep [6, 25, 26, 27]]
 | 14 => [.keep [6, 25, 26, 27]]
 | 15 => [.keep [2]]
 | 100000 => [.keep [0, 3]]
 | 100002 => [.keep [6]]
 | _ => []
@[reducible] def LP156_0 (xss : (List (List (TColumn).D))) (m : Nat) (st_ : St) (K : X → St → Prop) : Prop := (True) ∧ LoopE (t := (Ty.sl TColumn)) (fun (i0 : Int) (v0 : Int) => (⟨[(0, .data (Ty.sl (Ty.sl TColumn)) xss), (3, .data TInt v0), (9, .data (Ty.sl (Ty.sl TColumn)) xss), (10, .data TInt (xss.length : Int)), (11, .data TInt i0)], []⟩ : St)) xss (F.Concat_TColumn_l0 xss) (fun v0 : Int => True) (outD (fun v0 : Int => True → K (.exit 0) (⟨[(0, .data (Ty.sl (Ty.sl TColumn)) xss), (3, .data TInt v0)], []⟩ : St)) (fun _ => False)) m st_
@[reducible] def LP156_2 (xss : (List (List (TColumn).D))) (m : Nat) (st_ : St) (K : X → St → Prop) : Prop := (True) ∧ LoopE (t := (Ty.sl TColumn)) (fun (i2 : Int) (v2 : (List (TColumn).D)) => (⟨[(6, .own 24 none), (25, .data (Ty.sl (Ty.sl TColumn)) xss), (26, .data TInt (xss.length : Int)), (27, .data TInt i2)], [(24, .arr false TColumn v2)]⟩ : St)) xss (F.Concat_TColumn_l2 xss) (fun v2 : (List (TColumn).D) => True) (outD (fun v2 : (List (TColumn).D) => True → K (.exit 2) (⟨[(6, .own 24 none)], [(24, .arr false TColumn v2)]⟩ : St)) (fun _ => False)) m st_
def L156 (xss : (List (List (TColumn).D))) : Loops := fun id m st_ K => match id with
 | 0 => LP156_0 xss m st_ K
 | 2 => LP156_2 xss m st_ K
 | _ => False
theorem vc156 (xss : (List (List (TColumn).D))) (K : AV → Hp → Prop) : awp C156 (L156 xss) ann156 (bodyOf f156) ⟨argEnv 0 [.data (Ty.sl (Ty.sl TColumn)) xss], []⟩ (outK tab false f156.results.toList (hasBox []) (resK .raw K)) =
 ((∃ m_, (True) ∧ LoopE (t := (Ty.sl TColumn)) (fun (i0 : Int) (v0 : Int) => (⟨[(0, .data (Ty.sl (Ty.sl TColumn)) xss), (3, .data TInt v0), (9, .data (Ty.sl (Ty.sl TColumn)) xss), (10, .data TInt (xss.length : Int)), (11, .data TInt i0)], []⟩ : St)) xss (F.Concat_TColumn_l0 xss) (fun v0 : Int => True) (outD (fun v0 : Int => True → (0 ≤ v0) ∧ (v0 ≤ 1099511627776) ∧ (∀ r_9_1 : (List (TColumn).D), r_9_1 = (([] : List TColumn.D)) → (∃ m_, (True) ∧ LoopE (t := (Ty.sl TColumn)) (fun (i2 : Int) (v2 : (List (TColumn).D)) => (⟨[(6, .own 24 none), (25, .data (Ty.sl (Ty.sl TColumn)) xss), (26, .data TInt (xss.length : Int)), (27, .data TInt i2)], [(24, .arr false TColumn v2)]⟩ : St)) xss (F.Concat_TColumn_l2 xss) (fun v2 : (List (TColumn).D) => True) (outD (fun v2 : (List (TColumn).D) => True → K (.own 0 none) [(0, .arr false TColumn v2)]) (fun _ => False)) m_ (⟨[(6, .own 24 none), (25, .data (Ty.sl (Ty.sl TColumn)) xss), (26, .data TInt (xss.length : Int)), (27, .data TInt (0 : Int))], [(24, .arr false TColumn r_9_1)]⟩ : St)))) (fun _ => False)) m_ (⟨[(0, .data (Ty.sl (Ty.sl TColumn)) xss), (3, .data TInt (0 : Int)), (9, .data (Ty.sl (Ty.sl TColumn)) xss), (10, .data TInt (xss.length : Int)), (11, .data TInt (0 : Int))], []⟩ : St))) := by kernel_rfl
theorem lvc156_0 (xss : (List (List (TColumn).D)))  (i0 : Int) (v0 : Int) (m : Nat) (K : X → St → Prop) : awp C156 (L156 xss) ann156 (loopAt (bodyOf f156) 0) (⟨[(0, .data (Ty.sl (Ty.sl TColumn)) xss), (3, .data TInt v0), (9, .data (Ty.sl (Ty.sl TColumn)) xss), (10, .data TInt (xss.length : Int)), (11, .data TInt i0)], []⟩ : St) (thenW (fun s' => ∃ m', m' < m ∧ (L156 xss) 0 m' s' K) (exitN 0 (ann156 (behind 0)) K)) =
 (cond (decide (i0 < (xss.length : Int))) ((0 ≤ i0) ∧ (i0 < (xss.length : Int)) ∧ cond (decide (wrap64 (v0 + ((nth (t := (Ty.sl TColumn)) xss i0).length : Int)) < (0 : Int))) (False) ((∃ m_, m_ < m ∧ (L156 xss) 0 m_ (⟨[(0, .data (Ty.sl (Ty.sl TColumn)) xss), (3, .data TInt (wrap64 (v0 + ((nth (t := (Ty.sl TColumn)) xss i0).length : Int)))), (9, .data (Ty.sl (Ty.sl TColumn)) xss), (10, .data TInt (xss.length : Int)), (11, .data TInt (wrap64 (i0 + (1 : Int))))], []⟩ : St) K))) (K (.exit 0) (⟨[(0, .data (Ty.sl (Ty.sl TColumn)) xss), (3, .data TInt v0)], []⟩ : St))) := by kernel_rfl
theorem lvc156_1 (xss : (List (List (TColumn).D)))  (i2 : Int) (v2 : (List (TColumn).D)) (m : Nat) (K : X → St → Prop) : awp C156 (L156 xss) ann156 (loopAt (bodyOf f156) 1) (⟨[(6, .own 24 none), (25, .data (Ty.sl (Ty.sl TColumn)) xss), (26, .data TInt (xss.length : Int)), (27, .data TInt i2)], [(24, .arr false TColumn v2)]⟩ : St) (thenW (fun s' => ∃ m', m' < m ∧ (L156 xss) 2 m' s' K) (exitN 2 (ann156 (behind 2)) K)) =
 (cond (decide (i2 < (xss.length : Int))) ((0 ≤ i2) ∧ (i2 < (xss.length : Int)) ∧ ((v2.length + (nth (t := (Ty.sl TColumn)) xss i2).length) * 16 ≤ lim) ∧ (∃ m_, m_ < m ∧ (L156 xss) 2 m_ (⟨[(6, .own 24 none), (25, .data (Ty.sl (Ty.sl TColumn)) xss), (26, .data TInt (xss.length : Int)), (27, .data TInt (wrap64 (i2 + (1 : Int))))], [(24, .arr false TColumn (v2 ++ (nth (t := (Ty.sl TColumn)) xss i2)))]⟩ : St) K)) (K (.exit 2) (⟨[(6, .own 24 none)], [(24, .arr false TColumn v2)]⟩ : St))) := by kernel_rfl
theorem con156_ok : ConOk P 156 c156 := by
 refine con_okR (fn := f156) (code := bodyOf f156) (tab_ok tab_check cmp_check) consOk156 mixed func156 rfl rfl fun args hp K h0 => ?_
 obtain ⟨a0, rfl, rfl, h1⟩ := args1_elim h0
 obtain ⟨xss, rfl, h2⟩ := withD_elim h1
 obtain ⟨h_xss, hK⟩ := h2
 have h : ok (F.Concat_TColumn xss) (fun r => K (.own 0 none) [(0, .arr false TColumn r)]) := ok_of_eq (F.Concat_TColumn_eq xss h_xss) (hK _ rfl)
 refine ⟨⟨show (1 : Nat) ≤ 36 by decide, show (1 : Nat) ≤ 1000000 by decide⟩, ann156, (L156 xss), .raw, (loopsN2 (i0 := 0) (i1 := 2) (by kernel_rfl) ?_ ?_), ?_⟩
 ·clear h
  intro m_ s_ K_ h
  obtain ⟨hc0, i0, v0, rfl, hl0, rfl, hv0, h⟩ := (show LP156_0 xss m_ s_ K_ from h)
  rw [lvc156_0 xss i0 v0 _ K_]
  exact (loopE_step (t := (Ty.sl TColumn)) hl0 h (fun ht0 h => ⟨hl0, ⟨ht0, (ok_cond h (fun b_9 h => h) (fun b_9 h => (loopE_next (t := (Ty.sl TColumn)) (fun m hm => (show LP156_0 xss m _ _ from ⟨hc0, hm⟩)) (wrap64 (v0 + ((nth (t := (Ty.sl TColumn)) xss i0).length : Int))) rfl hl0 ht0 (sm_len h_xss) trivial (ok_ret h :))))⟩⟩) (fun h => (h trivial)))
 ·clear h
  intro m_ s_ K_ h
  obtain ⟨hc2, i2, v2, rfl, hl2, rfl, hv2, h⟩ := (show LP156_2 xss m_ s_ K_ from h)
  rw [lvc156_1 xss i2 v2 _ K_]
  exact (loopE_step (t := (Ty.sl TColumn)) hl2 h (fun ht2 h => ⟨hl2, ⟨ht2, ⟨(ok_guard h).1, have h := (ok_guard h).2; (loopE_next (t := (Ty.sl TColumn)) (fun m hm => (show LP156_2 xss m _ _ from ⟨hc2, hm⟩)) (v2 ++ (nth (t := (Ty.sl TColumn)) xss i2)) rfl hl2 ht2 (sm_len h_xss) trivial (ok_ret h :))⟩⟩⟩) (fun h => (h trivial)))
 ·rw [vc156 xss K]
  exact (loopE_start (t := (Ty.sl TColumn)) (fun m hm => ⟨trivial, hm⟩) (0 : Int) rfl trivial (ok_then h (fun v0 h hv0 => ⟨(ok_guard h).1, have h := (ok_guard h).2; ⟨(ok_guard h).1, have h := (ok_guard h).2; (fun r_9_1 e_r_9_1 => have h := ok_let h r_9_1 e_r_9_1; (loopE_start (t := (Ty.sl TColumn)) (fun m hm => ⟨trivial, hm⟩) r_9_1 rfl trivial (ok_then h (fun v2 h hv2 => (ok_ret h :)) (fun _ h => h.elim))))⟩⟩) (fun _ h => h.elim)))
def c123 : Con := ⟨[.dat TStep, .dat (Ty.sl TTable), .lent TMade], fun args hp K => args3 (fun a0 a1 a2 => withD TStep a0 fun s => withD (Ty.sl TTable) a1 fun tables => withB TMade a2 fun ahead => (Sm TStep s) ∧ (Sm (Ty.sl TTable) tables) ∧ (Sm (Ty.sl TMade) ahead) ∧ (∀ r : (TMade).D × Bool, r = (M.make s tables ahead) → K (.tup [.data TMade r.1, .data Ty.bool r.2]) [])) args hp, .plain⟩
def cons123 : Cons := [(66, c66), (100, c100), (136, c136), (155, c155), (156, c156)]
@[reducible] def C123 : Ctx := ⟨tab, fun t => memN t cmps, cons123, 201, [], 0, true⟩
theorem consOk123 : ConsOk P C123 := by
 refine consOk_cons (enter_ok (fn := f66) func66 (by kernel_rfl) rfl) con66_ok ?_
 refine consOk_cons (enter_ok (fn := f100) func100 (by kernel_rfl) rfl) con100_ok ?_
 refine consOk_cons (enter_ok (fn := f136) func136 (by kernel_rfl) rfl) con136_ok ?_
 refine consOk_cons (enter_ok (fn := f155) func155 (by kernel_rfl) rfl) con155_ok ?_
 refine consOk_cons (enter_ok (fn := f156) func156 (by kernel_rfl) rfl) con156_ok ?_
 exact consOk_nil
def ann123 : Nat → List Dir
 | 0 => [.fixRow 3 TStep, .keep [1, 2, 3, 6]]
 | 1 => [.keep [1, 2, 3, 6, 25]]
 | 2 => [.keep [6, 7]]
 | 3 => [.keep [1, 2, 3, 6, 29]]
 | 4 => [.keep [1, 3, 6, 36]]
 | 5 => [.keep [6, 7]]
 | 6 => [.keep [6, 7]]
 | 7 => [.keep [2, 3, 6, 60]]
 | 8 => [.keep [6, 7]]
 | 9 => [.fixRow 8 TMade, .fixRow 9 TMade, .keep [3, 6, 8, 9]]
 | 10 => [.keep [3, 6, 8, 9, 73]]
 | 11 => [.keep [3, 6, 8, 9, 73, 74]]
 | 12 => [.keep [6, 7]]
 | 13 => [.keep [3, 6, 8, 9, 73, 83]]
 | 14 => [.keep [3, 6, 8, 10]]
 | 15 => [.mineC false 10 0 800160 TColumn, .keep [3, 6, 8, 10, 89, 90, 91]]
 | 16 => [.keep [3, 6, 8, 10, 89, 90, 91, 92]]
 | 17 => [.keep [3, 6, 8, 10, 12, 89, 90, 91]]
 | 18 => [.keep [3, 6, 8, 10, 12, 89, 90, 91, 101]]
 | 19 => [.keep [6, 7]]
 | 20 => [.keep [3, 6, 8, 10, 89, 90, 91]]
 | 21 => [.keep [3, 6, 8, 10, 89, 90, 91]]
 | 22 => [.freeze 800160, .keep [6, 7]]
 | 23 => [.keep [3, 6, 8, 9, 73, 119]]
 | 24 => [.fixRow 13 TMade, .keep [3, 6, 13]]
 | 25 => [.freeze 126, .keep [6, 7]]
 | 26 => [.keep [6, 8, 9, 146]]
 | 27 => [.fixRow 14 TMade, .keep [6, 8, 9, 14]]
 | 28 => [.keep [6, 9, 14, 163]]
 | 29 => [.keep [6, 7]]
 | 30 => [.keep [6, 14, 166, 167, 168]]
 | 31 => [.keep [6, 14, 166, 167, 168, 169]]
 | 32 => [.fixRow 16 TColumn, .keep [6, 14, 15, 16, 166, 167, 168]]
 | 33 => [.keep [6, 14, 15, 16, 166, 167, 168, 181]]
 | 34 => [.keep [6, 7]]
 | 35 => [.keep [6, 14, 166, 167, 168]]
 | 36 => [.keep [6, 14, 166, 167, 168]]
 | 37 => [.freeze 150, .keep [6, 7]]
 | 38 => [.keep [6, 7]]
 | 100001 => [.keep [3, 6, 10]]
 | 100003 => [.keep [6, 14]]
 | _ => []
@[reducible] def LP123_1 (s : (TStep).D) (tables : (List (TTable).D)) (ahead : (List (TMade).D)) (m : Nat) (st_ : St) (K : X → St → Prop) : Prop := (True) ∧ LoopE (t := TInt) (fun (i1 : Int) (v1 : (List (TColumn).D)) => (⟨[(3, .adr TStep s), (6, .ptr 6 0), (8, .adr TMade (nth (t := TMade) ahead s.2.1)), (10, .ptr 10 0), (89, .data (Ty.sl TInt) s.2.2.2.2.2.1), (90, .data TInt (s.2.2.2.2.2.1.length : Int)), (91, .data TInt i1)], [(6, .box [.cst (.slice none 0 0), .data TInt (0 : Int)]), (10, .box [.own 800160 none, .data TInt (((nth (t := TMade) ahead s.2.1).2).1)]), (800160, .arr false TColumn v1)]⟩ : St)) s.2.2.2.2.2.1 (F.impl_Step_make_l1 s tables ahead) (fun v1 : (List (TColumn).D) => True) (outD (fun v1 : (List (TColumn).D) => True → K (.exit 1) (⟨[(3, .adr TStep s), (6, .ptr 6 0), (10, .ptr 10 0)], [(6, .box [.cst (.slice none 0 0), .data TInt (0 : Int)]), (10, .box [.own 800160 none, .data TInt (((nth (t := TMade) ahead s.2.1).2).1)]), (800160, .arr false TColumn v1)]⟩ : St)) (fun q1 : Unit => K .ret (⟨[(6, .ptr 6 0), (7, .data Ty.bool false)], [(6, .box [.cst (.slice none 0 0), .data TInt (0 : Int)])]⟩ : St))) m st_
@[reducible] def LP123_3 (s : (TStep).D) (tables : (List (TTable).D)) (ahead : (List (TMade).D)) (m : Nat) (st_ : St) (K : X → St → Prop) : Prop := ∃ c3_0 : Int, (True) ∧ LoopI (fun (i3 : Int) (v3 : (List (TColumn).D)) => (⟨[(6, .ptr 6 0), (14, .ptr 14 0), (166, .data (Ty.sl TColumn) ((nth (t := TMade) ahead s.2.2.1).1)), (167, .data TInt (((nth (t := TMade) ahead s.2.2.1).1).length : Int)), (168, .data TInt i3)], [(6, .box [.cst (.slice none 0 0), .data TInt (0 : Int)]), (14, .box [.clp 150 c3_0, .data TInt (wrap64 (((nth (t := TMade) ahead s.2.1).2).1 + ((nth (t := TMade) ahead s.2.2.1).2).1))]), (150, .arr false TColumn v3)]⟩ : St)) (0 : Int) (((nth (t := TMade) ahead s.2.2.1).1).length : Int) (F.impl_Step_make_l3 s tables ahead c3_0) (fun v3 : (List (TColumn).D) => True) (outD (fun v3 : (List (TColumn).D) => True → K (.exit 3) (⟨[(6, .ptr 6 0), (14, .ptr 14 0)], [(6, .box [.cst (.slice none 0 0), .data TInt (0 : Int)]), (14, .box [.clp 150 c3_0, .data TInt (wrap64 (((nth (t := TMade) ahead s.2.1).2).1 + ((nth (t := TMade) ahead s.2.2.1).2).1))]), (150, .arr false TColumn v3)]⟩ : St)) (fun q3 : Unit => K .ret (⟨[(6, .ptr 6 0), (7, .data Ty.bool false)], [(6, .box [.cst (.slice none 0 0), .data TInt (0 : Int)])]⟩ : St))) m st_
def L123 (s : (TStep).D) (tables : (List (TTable).D)) (ahead : (List (TMade).D)) : Loops := fun id m st_ K => match id with
 | 1 => LP123_1 s tables ahead m st_ K
 | 3 => LP123_3 s tables ahead m st_ K
 | _ => False
@[reducible] def S123_0 (s : (TStep).D) (tables : (List (TTable).D)) (ahead : (List (TMade).D)) (K : AV → Hp → Prop) : Prop := K (.tup [.data TMade (nth (t := TMade) ahead s.2.1), .data Ty.bool (decide ((M.exprKind ((nth (t := TMade) ahead s.2.1).1) s.2.2.2.2.1) = (3 : Int)))]) []
@[reducible] def S123_1 (s : (TStep).D) (tables : (List (TTable).D)) (ahead : (List (TMade).D)) (K : AV → Hp → Prop) : Prop := (S123_0 s tables ahead K)
@[reducible] def S123_2 (s : (TStep).D) (tables : (List (TTable).D)) (ahead : (List (TMade).D)) (K : AV → Hp → Prop) : Prop := (Sm (Ty.sl (Ty.sl TColumn)) [(nth (t := TMade) ahead s.2.1).1, (nth (t := TMade) ahead s.2.2.1).1]) ∧ (∀ r_24_5 : (List (TColumn).D), r_24_5 = (List.flatten [(nth (t := TMade) ahead s.2.1).1, (nth (t := TMade) ahead s.2.2.1).1]) → cond ((decide ((r_24_5.length : Int) ≤ (4 : Int))) == true) ((Sm (Ty.sl TColumn) r_24_5) ∧ (Sm (Ty.sl TPart) s.2.2.2.2.1) ∧ ((K (.tup [.data TMade (r_24_5, (wrap64 ((((nth (t := TMade) ahead s.2.1).2).1) * (((nth (t := TMade) ahead s.2.2.1).2).1)), ())), .data Ty.bool (decide ((M.exprKind r_24_5 s.2.2.2.2.1) = (3 : Int)))]) []) ∧ (K (.tup [.data TMade (r_24_5, (wrap64 ((((nth (t := TMade) ahead s.2.1).2).1) * (((nth (t := TMade) ahead s.2.2.1).2).1)), ())), .data Ty.bool (decide ((M.exprKind r_24_5 s.2.2.2.2.1) = (3 : Int)))]) [])) ∧ (K (.tup [.data TMade (r_24_5, (wrap64 ((((nth (t := TMade) ahead s.2.1).2).1) * (((nth (t := TMade) ahead s.2.2.1).2).1)), ())), .data Ty.bool (decide ((M.exprKind r_24_5 s.2.2.2.2.1) = (3 : Int)))]) [])) (((K (.tup [.data TMade (r_24_5, (wrap64 ((((nth (t := TMade) ahead s.2.1).2).1) * (((nth (t := TMade) ahead s.2.2.1).2).1)), ())), .data Ty.bool false]) []) ∧ (K (.tup [.data TMade (r_24_5, (wrap64 ((((nth (t := TMade) ahead s.2.1).2).1) * (((nth (t := TMade) ahead s.2.2.1).2).1)), ())), .data Ty.bool false]) [])) ∧ (K (.tup [.data TMade (r_24_5, (wrap64 ((((nth (t := TMade) ahead s.2.1).2).1) * (((nth (t := TMade) ahead s.2.2.1).2).1)), ())), .data Ty.bool false]) [])))
@[reducible] def S123_3 (s : (TStep).D) (tables : (List (TTable).D)) (ahead : (List (TMade).D)) (K : AV → Hp → Prop) : Prop := (Sm (Ty.sl TColumn) ((nth (t := TMade) ahead s.2.1).1)) ∧ (∀ r_27_2 : (List (TColumn).D), r_27_2 = (((nth (t := TMade) ahead s.2.1).1)) → cond (!decide ((((nth (t := TMade) ahead s.2.1).1).length : Int) = (((nth (t := TMade) ahead s.2.2.1).1).length : Int))) (K (.tup [.data TMade ([], ((0 : Int), ())), .data Ty.bool false]) []) ((∃ m_, ∃ c3_0 : Int, (True) ∧ LoopI (fun (i3 : Int) (v3 : (List (TColumn).D)) => (⟨[(6, .ptr 6 0), (14, .ptr 14 0), (166, .data (Ty.sl TColumn) ((nth (t := TMade) ahead s.2.2.1).1)), (167, .data TInt (((nth (t := TMade) ahead s.2.2.1).1).length : Int)), (168, .data TInt i3)], [(6, .box [.cst (.slice none 0 0), .data TInt (0 : Int)]), (14, .box [.clp 150 c3_0, .data TInt (wrap64 (((nth (t := TMade) ahead s.2.1).2).1 + ((nth (t := TMade) ahead s.2.2.1).2).1))]), (150, .arr false TColumn v3)]⟩ : St)) (0 : Int) (((nth (t := TMade) ahead s.2.2.1).1).length : Int) (F.impl_Step_make_l3 s tables ahead c3_0) (fun v3 : (List (TColumn).D) => True) (outD (fun v3 : (List (TColumn).D) => True → K (.tup [.data TMade ((cutList v3 (some ((0 : Int), c3_0))), (wrap64 (((nth (t := TMade) ahead s.2.1).2).1 + ((nth (t := TMade) ahead s.2.2.1).2).1), ())), .data Ty.bool true]) []) (fun q3 : Unit => K (.tup [.data TMade ([], ((0 : Int), ())), .data Ty.bool false]) [])) m_ (⟨[(6, .ptr 6 0), (14, .ptr 14 0), (166, .data (Ty.sl TColumn) ((nth (t := TMade) ahead s.2.2.1).1)), (167, .data TInt (((nth (t := TMade) ahead s.2.2.1).1).length : Int)), (168, .data TInt (0 : Int))], [(6, .box [.cst (.slice none 0 0), .data TInt (0 : Int)]), (14, .box [.clp 150 (r_27_2.length : Int), .data TInt (wrap64 (((nth (t := TMade) ahead s.2.1).2).1 + ((nth (t := TMade) ahead s.2.2.1).2).1))]), (150, .arr false TColumn r_27_2)]⟩ : St))))
@[reducible] def S123_4 (s : (TStep).D) (tables : (List (TTable).D)) (ahead : (List (TMade).D)) (K : AV → Hp → Prop) : Prop := cond (decide (s.1 = (2 : Int))) ((Sm (Ty.sl TColumn) ((nth (t := TMade) ahead s.2.1).1)) ∧ (Sm (Ty.sl TPart) s.2.2.2.2.1) ∧ ((S123_1 s tables ahead K)) ∧ ((S123_1 s tables ahead K))) (cond (decide (s.1 = (3 : Int))) ((∃ m_, (True) ∧ LoopE (t := TInt) (fun (i1 : Int) (v1 : (List (TColumn).D)) => (⟨[(3, .adr TStep s), (6, .ptr 6 0), (8, .adr TMade (nth (t := TMade) ahead s.2.1)), (10, .ptr 10 0), (89, .data (Ty.sl TInt) s.2.2.2.2.2.1), (90, .data TInt (s.2.2.2.2.2.1.length : Int)), (91, .data TInt i1)], [(6, .box [.cst (.slice none 0 0), .data TInt (0 : Int)]), (10, .box [.own 800160 none, .data TInt (((nth (t := TMade) ahead s.2.1).2).1)]), (800160, .arr false TColumn v1)]⟩ : St)) s.2.2.2.2.2.1 (F.impl_Step_make_l1 s tables ahead) (fun v1 : (List (TColumn).D) => True) (outD (fun v1 : (List (TColumn).D) => True → (((K (.tup [.data TMade (v1, (nth (t := TMade) ahead s.2.1).2), .data Ty.bool (decide ((s.2.2.2.2.2.1.length : Int) ≤ (4 : Int)))]) []) ∧ (K (.tup [.data TMade (v1, (nth (t := TMade) ahead s.2.1).2), .data Ty.bool (decide ((s.2.2.2.2.2.1.length : Int) ≤ (4 : Int)))]) [])) ∧ (K (.tup [.data TMade (v1, (nth (t := TMade) ahead s.2.1).2), .data Ty.bool (decide ((s.2.2.2.2.2.1.length : Int) ≤ (4 : Int)))]) [])) ∧ (K (.tup [.data TMade (v1, (nth (t := TMade) ahead s.2.1).2), .data Ty.bool (decide ((s.2.2.2.2.2.1.length : Int) ≤ (4 : Int)))]) [])) (fun q1 : Unit => K (.tup [.data TMade ([], ((0 : Int), ())), .data Ty.bool false]) [])) m_ (⟨[(3, .adr TStep s), (6, .ptr 6 0), (8, .adr TMade (nth (t := TMade) ahead s.2.1)), (10, .ptr 10 0), (89, .data (Ty.sl TInt) s.2.2.2.2.2.1), (90, .data TInt (s.2.2.2.2.2.1.length : Int)), (91, .data TInt (0 : Int))], [(6, .box [.cst (.slice none 0 0), .data TInt (0 : Int)]), (10, .box [.own 800160 none, .data TInt (((nth (t := TMade) ahead s.2.1).2).1)]), (800160, .arr false TColumn [])]⟩ : St))) (cond (decide (s.1 = (4 : Int))) ((((S123_2 s tables ahead K)) ∧ ((S123_2 s tables ahead K))) ∧ ((S123_2 s tables ahead K))) (cond (decide (s.1 = (5 : Int))) (((S123_3 s tables ahead K)) ∧ ((S123_3 s tables ahead K))) (K (.tup [.data TMade (nth (t := TMade) ahead s.2.1), .data Ty.bool true]) []))))
@[reducible] def S123_5 (s : (TStep).D) (tables : (List (TTable).D)) (ahead : (List (TMade).D)) (K : AV → Hp → Prop) : Prop := (S123_4 s tables ahead K)
@[reducible] def S123_6 (s : (TStep).D) (tables : (List (TTable).D)) (ahead : (List (TMade).D)) (K : AV → Hp → Prop) : Prop := ((S123_5 s tables ahead K)) ∧ ((S123_5 s tables ahead K))
@[reducible] def S123_7 (s : (TStep).D) (tables : (List (TTable).D)) (ahead : (List (TMade).D)) (K : AV → Hp → Prop) : Prop := ((S123_5 s tables ahead K)) ∧ ((S123_6 s tables ahead K))
@[reducible] def S123_8 (s : (TStep).D) (tables : (List (TTable).D)) (ahead : (List (TMade).D)) (K : AV → Hp → Prop) : Prop := ((0 ≤ s.2.2.1) ∧ (s.2.2.1 < (ahead.length : Int)) ∧ (S123_7 s tables ahead K)) ∧ (((0 ≤ s.2.2.1) ∧ (s.2.2.1 < (ahead.length : Int)) ∧ (S123_6 s tables ahead K)) ∧ ((0 ≤ s.2.2.1) ∧ (s.2.2.1 < (ahead.length : Int)) ∧ (S123_5 s tables ahead K)))
theorem vc123 (s : (TStep).D) (tables : (List (TTable).D)) (ahead : (List (TMade).D)) (K : AV → Hp → Prop) : awp C123 (L123 s tables ahead) ann123 (bodyOf f123) ⟨argEnv 0 [.data TStep s, .data (Ty.sl TTable) tables, .brw TMade ahead], []⟩ (outK tab true f123.results.toList (hasBox []) (resK (.tup [TMade, Ty.bool]) K)) =
 ((Sm TStep s) ∧ cond ((!(M.fieldsOk s)) == false) (cond (!(M.inR s.1 (1 : Int) (6 : Int))) (K (.tup [.data TMade ([], ((0 : Int), ())), .data Ty.bool false]) []) (cond (decide (s.1 = (1 : Int))) (cond (!(M.inR s.2.2.2.1 (0 : Int) (wrap64 ((tables.length : Int) - (1 : Int))))) (K (.tup [.data TMade ([], ((0 : Int), ())), .data Ty.bool false]) []) ((0 ≤ s.2.2.2.1) ∧ (s.2.2.2.1 < (tables.length : Int)) ∧ K (.tup [.data TMade ((nth (t := TTable) tables s.2.2.2.1).1, ((6 : Int), ())), .data Ty.bool true]) [])) (cond ((!(M.inR s.2.1 (0 : Int) (wrap64 ((ahead.length : Int) - (1 : Int))))) == false) (cond (!(M.inR s.2.2.1 (0 : Int) (wrap64 ((ahead.length : Int) - (1 : Int))))) (K (.tup [.data TMade ([], ((0 : Int), ())), .data Ty.bool false]) []) ((0 ≤ s.2.1) ∧ (s.2.1 < (ahead.length : Int)) ∧ ((0 ≤ s.2.2.1) ∧ (s.2.2.1 < (ahead.length : Int)) ∧ ((S123_6 s tables ahead K)) ∧ ((S123_7 s tables ahead K)) ∧ ((S123_7 s tables ahead K))) ∧ ((S123_8 s tables ahead K)) ∧ ((S123_8 s tables ahead K)))) (K (.tup [.data TMade ([], ((0 : Int), ())), .data Ty.bool false]) [])))) (K (.tup [.data TMade ([], ((0 : Int), ())), .data Ty.bool false]) [])) := by kernel_rfl
theorem lvc123_0 (s : (TStep).D) (tables : (List (TTable).D)) (ahead : (List (TMade).D))  (i1 : Int) (v1 : (List (TColumn).D)) (m : Nat) (K : X → St → Prop) : awp C123 (L123 s tables ahead) ann123 (loopAt (bodyOf f123) 0) (⟨[(3, .adr TStep s), (6, .ptr 6 0), (8, .adr TMade (nth (t := TMade) ahead s.2.1)), (10, .ptr 10 0), (89, .data (Ty.sl TInt) s.2.2.2.2.2.1), (90, .data TInt (s.2.2.2.2.2.1.length : Int)), (91, .data TInt i1)], [(6, .box [.cst (.slice none 0 0), .data TInt (0 : Int)]), (10, .box [.own 800160 none, .data TInt (((nth (t := TMade) ahead s.2.1).2).1)]), (800160, .arr false TColumn v1)]⟩ : St) (thenW (fun s' => ∃ m', m' < m ∧ (L123 s tables ahead) 1 m' s' K) (exitN 1 (ann123 (behind 1)) K)) =
 (cond (decide (i1 < (s.2.2.2.2.2.1.length : Int))) ((0 ≤ i1) ∧ (i1 < (s.2.2.2.2.2.1.length : Int)) ∧ cond (!(M.inR (nth (t := TInt) s.2.2.2.2.2.1 i1) (0 : Int) (wrap64 ((((nth (t := TMade) ahead s.2.1).1).length : Int) - (1 : Int))))) (K .ret (⟨[(6, .ptr 6 0), (7, .data Ty.bool false)], [(6, .box [.cst (.slice none 0 0), .data TInt (0 : Int)])]⟩ : St)) ((0 ≤ (nth (t := TInt) s.2.2.2.2.2.1 i1)) ∧ ((nth (t := TInt) s.2.2.2.2.2.1 i1) < (((nth (t := TMade) ahead s.2.1).1).length : Int)) ∧ ((v1.length + [(nth (t := TColumn) ((nth (t := TMade) ahead s.2.1).1) (nth (t := TInt) s.2.2.2.2.2.1 i1))].length) * 16 ≤ lim) ∧ (∃ m_, m_ < m ∧ (L123 s tables ahead) 1 m_ (⟨[(3, .adr TStep s), (6, .ptr 6 0), (8, .adr TMade (nth (t := TMade) ahead s.2.1)), (10, .ptr 10 0), (89, .data (Ty.sl TInt) s.2.2.2.2.2.1), (90, .data TInt (s.2.2.2.2.2.1.length : Int)), (91, .data TInt (wrap64 (i1 + (1 : Int))))], [(6, .box [.cst (.slice none 0 0), .data TInt (0 : Int)]), (10, .box [.own 800160 none, .data TInt (((nth (t := TMade) ahead s.2.1).2).1)]), (800160, .arr false TColumn (v1 ++ [(nth (t := TColumn) ((nth (t := TMade) ahead s.2.1).1) (nth (t := TInt) s.2.2.2.2.2.1 i1))]))]⟩ : St) K))) (K (.exit 1) (⟨[(3, .adr TStep s), (6, .ptr 6 0), (10, .ptr 10 0)], [(6, .box [.cst (.slice none 0 0), .data TInt (0 : Int)]), (10, .box [.own 800160 none, .data TInt (((nth (t := TMade) ahead s.2.1).2).1)]), (800160, .arr false TColumn v1)]⟩ : St))) := by kernel_rfl
theorem lvc123_1 (s : (TStep).D) (tables : (List (TTable).D)) (ahead : (List (TMade).D)) (c3_0 : Int) (i3 : Int) (v3 : (List (TColumn).D)) (m : Nat) (K : X → St → Prop) : awp C123 (L123 s tables ahead) ann123 (loopAt (bodyOf f123) 1) (⟨[(6, .ptr 6 0), (14, .ptr 14 0), (166, .data (Ty.sl TColumn) ((nth (t := TMade) ahead s.2.2.1).1)), (167, .data TInt (((nth (t := TMade) ahead s.2.2.1).1).length : Int)), (168, .data TInt i3)], [(6, .box [.cst (.slice none 0 0), .data TInt (0 : Int)]), (14, .box [.clp 150 c3_0, .data TInt (wrap64 (((nth (t := TMade) ahead s.2.1).2).1 + ((nth (t := TMade) ahead s.2.2.1).2).1))]), (150, .arr false TColumn v3)]⟩ : St) (thenW (fun s' => ∃ m', m' < m ∧ (L123 s tables ahead) 3 m' s' K) (exitN 3 (ann123 (behind 3)) K)) =
 (cond (decide (i3 < (((nth (t := TMade) ahead s.2.2.1).1).length : Int))) ((0 ≤ i3) ∧ (i3 < (((nth (t := TMade) ahead s.2.2.1).1).length : Int)) ∧ (0 ≤ i3) ∧ (i3 < c3_0) ∧ cond (!decide ((nth (t := TColumn) ((nth (t := TMade) ahead s.2.2.1).1) i3).1 = (nth (t := TColumn) v3 i3).1)) (K .ret (⟨[(6, .ptr 6 0), (7, .data Ty.bool false)], [(6, .box [.cst (.slice none 0 0), .data TInt (0 : Int)])]⟩ : St)) ((0 ≤ i3) ∧ (i3 < c3_0) ∧ cond ((((nth (t := TColumn) v3 i3).2).1) == false) ((0 ≤ i3) ∧ (i3 < c3_0) ∧ (let y_35_15 : (List (TColumn).D) := (v3.set i3.toNat ((nth (t := TColumn) v3 i3).1, (nth (t := TColumn) ((nth (t := TMade) ahead s.2.2.1).1) i3).2)); (∃ m_, m_ < m ∧ (L123 s tables ahead) 3 m_ (⟨[(6, .ptr 6 0), (14, .ptr 14 0), (166, .data (Ty.sl TColumn) ((nth (t := TMade) ahead s.2.2.1).1)), (167, .data TInt (((nth (t := TMade) ahead s.2.2.1).1).length : Int)), (168, .data TInt (wrap64 (i3 + (1 : Int))))], [(6, .box [.cst (.slice none 0 0), .data TInt (0 : Int)]), (14, .box [.clp 150 c3_0, .data TInt (wrap64 (((nth (t := TMade) ahead s.2.1).2).1 + ((nth (t := TMade) ahead s.2.2.1).2).1))]), (150, .arr false TColumn y_35_15)]⟩ : St) K))) ((0 ≤ i3) ∧ (i3 < c3_0) ∧ (∃ m_, m_ < m ∧ (L123 s tables ahead) 3 m_ (⟨[(6, .ptr 6 0), (14, .ptr 14 0), (166, .data (Ty.sl TColumn) ((nth (t := TMade) ahead s.2.2.1).1)), (167, .data TInt (((nth (t := TMade) ahead s.2.2.1).1).length : Int)), (168, .data TInt (wrap64 (i3 + (1 : Int))))], [(6, .box [.cst (.slice none 0 0), .data TInt (0 : Int)]), (14, .box [.clp 150 c3_0, .data TInt (wrap64 (((nth (t := TMade) ahead s.2.1).2).1 + ((nth (t := TMade) ahead s.2.2.1).2).1))]), (150, .arr false TColumn (v3.set i3.toNat ((nth (t := TColumn) v3 i3).1, (true, ()))))]⟩ : St) K)))) (K (.exit 3) (⟨[(6, .ptr 6 0), (14, .ptr 14 0)], [(6, .box [.cst (.slice none 0 0), .data TInt (0 : Int)]), (14, .box [.clp 150 c3_0, .data TInt (wrap64 (((nth (t := TMade) ahead s.2.1).2).1 + ((nth (t := TMade) ahead s.2.2.1).2).1))]), (150, .arr false TColumn v3)]⟩ : St))) := by kernel_rfl
theorem con123_ok : ConOk P 123 c123 := by
 refine con_okR (fn := f123) (code := bodyOf f123) (tab_ok tab_check cmp_check) consOk123 mixed func123 rfl rfl fun args hp K h0 => ?_
 obtain ⟨a0, a1, a2, rfl, rfl, h1⟩ := args3_elim h0
 obtain ⟨s, rfl, h2⟩ := withD_elim h1
 obtain ⟨tables, rfl, h3⟩ := withD_elim h2
 obtain ⟨ahead, rfl, h4⟩ := withB_elim h3
 obtain ⟨h_s, h_tables, h_ahead, hK⟩ := h4
 have h : ok (F.impl_Step_make s tables ahead) (fun r => K (.tup [.data TMade r.1, .data Ty.bool r.2]) []) := ok_of_eq (F.impl_Step_make_eq s tables ahead h_s h_tables h_ahead) (hK _ rfl)
 refine ⟨⟨show (3 : Nat) ≤ 201 by decide, show (3 : Nat) ≤ 1000000 by decide⟩, ann123, (L123 s tables ahead), (.tup [TMade, Ty.bool]), (loopsN2 (i0 := 1) (i1 := 3) (by kernel_rfl) ?_ ?_), ?_⟩
 ·clear h
  intro m_ s_ K_ h
  obtain ⟨hc1, i1, v1, rfl, hl1, rfl, hv1, h⟩ := (show LP123_1 s tables ahead m_ s_ K_ from h)
  rw [lvc123_0 s tables ahead i1 v1 _ K_]
  exact (loopE_step (t := TInt) hl1 h (fun ht1 h => ⟨hl1, ⟨ht1, (ok_cond h (fun b_22 h => (ok_ret h :)) (fun b_22 h => ⟨(inR_lo (bnf b_22)), ⟨(inR_hi (bnf b_22)), ⟨(ok_guard h).1, have h := (ok_guard h).2; (loopE_next (t := TInt) (fun m hm => (show LP123_1 s tables ahead m _ _ from ⟨hc1, hm⟩)) (v1 ++ [(nth (t := TColumn) ((nth (t := TMade) ahead s.2.1).1) (nth (t := TInt) s.2.2.2.2.2.1 i1))]) rfl hl1 ht1 (sm_len h_s.2.2.2.2.2.1) trivial (ok_ret h :))⟩⟩⟩))⟩⟩) (fun h => (h trivial)))
 ·clear h
  intro m_ s_ K_ h
  obtain ⟨c3_0, hc3, i3, v3, rfl, hl3, rfl, hv3, h⟩ := (show LP123_3 s tables ahead m_ s_ K_ from h)
  rw [lvc123_1 s tables ahead c3_0 i3 v3 _ K_]
  exact (loopI_step h (fun ht3 h => ⟨hl3, ⟨ht3, ⟨hl3, ⟨(ok_guard h).1, have g_48 := (ok_guard h).1; have h := (ok_guard h).2; (ok_cond h (fun b_49 h => (ok_ret h :)) (fun b_49 h => ⟨hl3, ⟨g_48, (ok_cond h (fun b_50 h => ⟨hl3, ⟨g_48, (let y_35_15 : (List (TColumn).D) := (v3.set i3.toNat ((nth (t := TColumn) v3 i3).1, (nth (t := TColumn) ((nth (t := TMade) ahead s.2.2.1).1) i3).2)); have h := ok_let h y_35_15 rfl; (loopI_next (fun m hm => (show LP123_3 s tables ahead m _ _ from ⟨c3_0, hc3, hm⟩)) y_35_15 rfl hl3 low0 ht3 (sm_len (sm_nth h_ahead s.2.2.1).1) trivial (ok_ret h :)))⟩⟩) (fun b_50 h => ⟨hl3, ⟨g_48, (loopI_next (fun m hm => (show LP123_3 s tables ahead m _ _ from ⟨c3_0, hc3, hm⟩)) (v3.set i3.toNat ((nth (t := TColumn) v3 i3).1, (true, ()))) rfl hl3 low0 ht3 (sm_len (sm_nth h_ahead s.2.2.1).1) trivial (ok_ret h :))⟩⟩))⟩⟩))⟩⟩⟩⟩) (fun h => (h trivial)))
 ·rw [vc123 s tables ahead K]
  exact ⟨h_s, (ok_cond h (fun b_1 h => (ok_cond h (fun b_2 h => (ok_ret h :)) (fun b_2 h => (ok_cond h (fun b_3 h => (ok_cond h (fun b_4 h => (ok_ret h :)) (fun b_4 h => ⟨(inR_lo (bnf b_4)), ⟨(inR_hi (bnf b_4)), (ok_ret h :)⟩⟩))) (fun b_3 h => (ok_cond h (fun b_5 h => (ok_cond h (fun b_6 h => (ok_ret h :)) (fun b_6 h => ⟨(inR_lo (bnf (bgt b_5))), ⟨(inR_hi (bnf (bgt b_5))), (have eg1_ : (S123_5 s tables ahead K) := (have h := h; (ok_cond h (fun b_7 h => ⟨(sm_nth h_ahead s.2.1).1, ⟨h_s.2.2.2.2.1, (have eg2_ : (S123_1 s tables ahead K) := (have h := h; (ok_ret h :)); ⟨eg2_, eg2_⟩)⟩⟩) (fun b_7 h => (ok_cond h (fun b_8 h => (loopE_start (t := TInt) (fun m hm => ⟨trivial, hm⟩) [] rfl trivial (ok_then h (fun v1 h hv1 => (⟨⟨⟨(have h := h; (ok_ret h :)), (have h := h; (ok_ret h :))⟩, (have h := h; (ok_ret h :))⟩, (have h := h; (ok_ret h :))⟩)) (fun q1 h => (ok_ret h :))))) (fun b_8 h => (ok_cond h (fun b_24 h => ((fun (g4_0 : Sm (Ty.sl (Ty.sl TColumn)) [(nth (t := TMade) ahead s.2.1).1, (nth (t := TMade) ahead s.2.2.1).1]) => ⟨⟨⟨g4_0, have g_25 := g4_0; (fun r_24_5 e_r_24_5 => (have h := (ok_let (ok_guard h).2 r_24_5 e_r_24_5); (ok_cond h (fun b_26 h => ⟨(ok_guard h).1, have h := (ok_guard h).2; ⟨h_s.2.2.2.2.1, (⟨⟨(have h := h; (ok_ret h :)), (have h := h; (ok_ret h :))⟩, (have h := h; (ok_ret h :))⟩)⟩⟩) (fun b_26 h => (⟨⟨(have h := h; (ok_ret h :)), (have h := h; (ok_ret h :))⟩, (have h := h; (ok_ret h :))⟩)))))⟩, ⟨g4_0, have g_28 := g4_0; (fun r_24_5 e_r_24_5 => (have h := (ok_let (ok_guard h).2 r_24_5 e_r_24_5); (ok_cond h (fun b_29 h => ⟨(ok_guard h).1, have h := (ok_guard h).2; ⟨h_s.2.2.2.2.1, (⟨⟨(have h := h; (ok_ret h :)), (have h := h; (ok_ret h :))⟩, (have h := h; (ok_ret h :))⟩)⟩⟩) (fun b_29 h => (⟨⟨(have h := h; (ok_ret h :)), (have h := h; (ok_ret h :))⟩, (have h := h; (ok_ret h :))⟩)))))⟩⟩, ⟨g4_0, have g_31 := g4_0; (fun r_24_5 e_r_24_5 => (have h := (ok_let (ok_guard h).2 r_24_5 e_r_24_5); (ok_cond h (fun b_32 h => ⟨(ok_guard h).1, have h := (ok_guard h).2; ⟨h_s.2.2.2.2.1, (⟨⟨(have h := h; (ok_ret h :)), (have h := h; (ok_ret h :))⟩, (have h := h; (ok_ret h :))⟩)⟩⟩) (fun b_32 h => (⟨⟨(have h := h; (ok_ret h :)), (have h := h; (ok_ret h :))⟩, (have h := h; (ok_ret h :))⟩)))))⟩⟩) (ok_guard h).1)) (fun b_24 h => (ok_cond h (fun b_34 h => (⟨⟨(sm_nth h_ahead s.2.1).1, (fun r_27_2 e_r_27_2 => (have h := (ok_let h r_27_2 e_r_27_2); (ok_cond h (fun b_35 h => (ok_ret h :)) (fun b_35 h => (loopI_start (fun m hm => ⟨(r_27_2.length : Int), trivial, hm⟩) (0 : Int) r_27_2 rfl (Int.natCast_nonneg 0) trivial (ok_then h (fun v3 h hv3 => (ok_ret h :)) (fun q3 h => (ok_ret h :))))))))⟩, ⟨(sm_nth h_ahead s.2.1).1, (fun r_27_2 e_r_27_2 => (have h := (ok_let h r_27_2 e_r_27_2); (ok_cond h (fun b_51 h => (ok_ret h :)) (fun b_51 h => (loopI_start (fun m hm => ⟨(r_27_2.length : Int), trivial, hm⟩) (0 : Int) r_27_2 rfl (Int.natCast_nonneg 0) trivial (ok_then h (fun v3 h hv3 => (ok_ret h :)) (fun q3 h => (ok_ret h :))))))))⟩⟩)) (fun b_34 h => (ok_ret h :)))))))))); ⟨⟨(inR_lo (bnf b_6)), ⟨(inR_hi (bnf b_6)), ⟨⟨eg1_, eg1_⟩, ⟨eg1_, ⟨eg1_, eg1_⟩⟩, ⟨eg1_, ⟨eg1_, eg1_⟩⟩⟩⟩⟩, ⟨⟨(inR_lo (bnf b_6)), ⟨(inR_hi (bnf b_6)), ⟨eg1_, ⟨eg1_, eg1_⟩⟩⟩⟩, ⟨⟨(inR_lo (bnf b_6)), ⟨(inR_hi (bnf b_6)), ⟨eg1_, eg1_⟩⟩⟩, ⟨(inR_lo (bnf b_6)), ⟨(inR_hi (bnf b_6)), eg1_⟩⟩⟩⟩, ⟨⟨(inR_lo (bnf b_6)), ⟨(inR_hi (bnf b_6)), ⟨eg1_, ⟨eg1_, eg1_⟩⟩⟩⟩, ⟨⟨(inR_lo (bnf b_6)), ⟨(inR_hi (bnf b_6)), ⟨eg1_, eg1_⟩⟩⟩, ⟨(inR_lo (bnf b_6)), ⟨(inR_hi (bnf b_6)), eg1_⟩⟩⟩⟩⟩)⟩⟩))) (fun b_5 h => (ok_ret h :)))))))) (fun b_1 h => (ok_ret h :)))⟩
def c87 : Con := ⟨[.dat (Ty.sl TTable), .dat (Ty.sl TStep)], fun args hp K => args2 (fun a0 a1 => withD (Ty.sl TTable) a0 fun tables => withD (Ty.sl TStep) a1 fun plan => (Sm (Ty.sl TTable) tables) ∧ (Sm (Ty.sl TStep) plan) ∧ (∀ r : (List (TMade).D) × Bool, r = (M.makes tables plan) → K (.tup [.data (Ty.sl TMade) r.1, .data Ty.bool r.2]) [])) args hp, .plain⟩
def cons87 : Cons := [(66, c66), (99, c99), (123, c123)]
@[reducible] def C87 : Ctx := ⟨tab, fun t => memN t cmps, cons87, 46, [], 0, false⟩
theorem consOk87 : ConsOk P C87 := by
 refine consOk_cons (enter_ok (fn := f66) func66 (by kernel_rfl) rfl) con66_ok ?_
 refine consOk_cons (enter_ok (fn := f99) func99 (by kernel_rfl) rfl) con99_ok ?_
 refine consOk_cons (enter_ok (fn := f123) func123 (by kernel_rfl) rfl) con123_ok ?_
 exact consOk_nil
def ann87 : Nat → List Dir
 | 0 => [.keep [0, 1]]
 | 1 => [.keep [0, 1, 19]]
 | 2 => [.keep [4, 5]]
 | 3 => [.keep [0, 1, 6]]
 | 4 => [.keep [0, 6, 20, 21, 22]]
 | 5 => [.keep [0, 6, 20, 21, 22, 23]]
 | 6 => [.fixRow 8 TStep, .keep [0, 6, 8, 20, 21, 22]]
 | 7 => [.fixRow 9 TMade, .keep [0, 6, 9, 10, 20, 21, 22]]
 | 8 => [.keep [0, 6, 9, 20, 21, 22, 39]]
 | 9 => [.keep [4, 5]]
 | 10 => [.keep [0, 6, 20, 21, 22]]
 | 11 => [.keep [0, 6, 20, 21, 22]]
 | 12 => [.keep [4, 5]]
 | 100000 => [.keep [6]]
 | _ => []
@[reducible] def LP87_0 (tables : (List (TTable).D)) (plan : (List (TStep).D)) (m : Nat) (st_ : St) (K : X → St → Prop) : Prop := (True) ∧ LoopE (t := TStep) (fun (i0 : Int) (v0 : (List (TMade).D)) => (⟨[(0, .data (Ty.sl TTable) tables), (6, .own 6 none), (20, .data (Ty.sl TStep) plan), (21, .data TInt (plan.length : Int)), (22, .data TInt i0)], [(6, .arr false TMade v0)]⟩ : St)) plan (F.impl_makes_l0 tables plan) (fun v0 : (List (TMade).D) => True) (outD (fun v0 : (List (TMade).D) => True → K (.exit 0) (⟨[(6, .own 6 none)], [(6, .arr false TMade v0)]⟩ : St)) (fun q0 : Unit => K .ret (⟨[(4, .own 4 none), (5, .data Ty.bool false)], [(4, .arr false TMade [])]⟩ : St))) m st_
def L87 (tables : (List (TTable).D)) (plan : (List (TStep).D)) : Loops := fun id m st_ K => match id with
 | 0 => LP87_0 tables plan m st_ K
 | _ => False
theorem vc87 (tables : (List (TTable).D)) (plan : (List (TStep).D)) (K : AV → Hp → Prop) : awp C87 (L87 tables plan) ann87 (bodyOf f87) ⟨argEnv 0 [.data (Ty.sl TTable) tables, .data (Ty.sl TStep) plan], []⟩ (outK tab false f87.results.toList (hasBox []) (resK (.tup [(Ty.sl TMade), Ty.bool]) K)) =
 ((Sm (Ty.sl TTable) tables) ∧ cond ((!(M.tablesOk tables)) == false) (cond (!(M.inR (plan.length : Int) (1 : Int) (6 : Int))) (K (.tup [.data (Ty.sl TMade) [], .data Ty.bool false]) []) ((∃ m_, (True) ∧ LoopE (t := TStep) (fun (i0 : Int) (v0 : (List (TMade).D)) => (⟨[(0, .data (Ty.sl TTable) tables), (6, .own 6 none), (20, .data (Ty.sl TStep) plan), (21, .data TInt (plan.length : Int)), (22, .data TInt i0)], [(6, .arr false TMade v0)]⟩ : St)) plan (F.impl_makes_l0 tables plan) (fun v0 : (List (TMade).D) => True) (outD (fun v0 : (List (TMade).D) => True → K (.tup [.data (Ty.sl TMade) v0, .data Ty.bool true]) []) (fun q0 : Unit => K (.tup [.data (Ty.sl TMade) [], .data Ty.bool false]) [])) m_ (⟨[(0, .data (Ty.sl TTable) tables), (6, .own 6 none), (20, .data (Ty.sl TStep) plan), (21, .data TInt (plan.length : Int)), (22, .data TInt (0 : Int))], [(6, .arr false TMade [])]⟩ : St)))) (K (.tup [.data (Ty.sl TMade) [], .data Ty.bool false]) [])) := by kernel_rfl
theorem lvc87_0 (tables : (List (TTable).D)) (plan : (List (TStep).D))  (i0 : Int) (v0 : (List (TMade).D)) (m : Nat) (K : X → St → Prop) : awp C87 (L87 tables plan) ann87 (loopAt (bodyOf f87) 0) (⟨[(0, .data (Ty.sl TTable) tables), (6, .own 6 none), (20, .data (Ty.sl TStep) plan), (21, .data TInt (plan.length : Int)), (22, .data TInt i0)], [(6, .arr false TMade v0)]⟩ : St) (thenW (fun s' => ∃ m', m' < m ∧ (L87 tables plan) 0 m' s' K) (exitN 0 (ann87 (behind 0)) K)) =
 (cond (decide (i0 < (plan.length : Int))) ((0 ≤ i0) ∧ (i0 < (plan.length : Int)) ∧ (Sm TStep (nth (t := TStep) plan i0)) ∧ (Sm (Ty.sl TTable) tables) ∧ (Sm (Ty.sl TMade) v0) ∧ (∀ r_7_3 : (TMade).D × Bool, r_7_3 = (M.make (nth (t := TStep) plan i0) tables v0) → cond ((!r_7_3.2) == false) (cond (decide ((300 : Int) < r_7_3.1.2.1)) (K .ret (⟨[(4, .own 4 none), (5, .data Ty.bool false)], [(4, .arr false TMade [])]⟩ : St)) (((v0.length + [r_7_3.1].length) * 32 ≤ lim) ∧ (∃ m_, m_ < m ∧ (L87 tables plan) 0 m_ (⟨[(0, .data (Ty.sl TTable) tables), (6, .own 6 none), (20, .data (Ty.sl TStep) plan), (21, .data TInt (plan.length : Int)), (22, .data TInt (wrap64 (i0 + (1 : Int))))], [(6, .arr false TMade (v0 ++ [r_7_3.1]))]⟩ : St) K))) (K .ret (⟨[(4, .own 4 none), (5, .data Ty.bool false)], [(4, .arr false TMade [])]⟩ : St)))) (K (.exit 0) (⟨[(6, .own 6 none)], [(6, .arr false TMade v0)]⟩ : St))) := by kernel_rfl
theorem con87_ok : ConOk P 87 c87 := by
 refine con_okR (fn := f87) (code := bodyOf f87) (tab_ok tab_check cmp_check) consOk87 mixed func87 rfl rfl fun args hp K h0 => ?_
 obtain ⟨a0, a1, rfl, rfl, h1⟩ := args2_elim h0
 obtain ⟨tables, rfl, h2⟩ := withD_elim h1
 obtain ⟨plan, rfl, h3⟩ := withD_elim h2
 obtain ⟨h_tables, h_plan, hK⟩ := h3
 have h : ok (F.impl_makes tables plan) (fun r => K (.tup [.data (Ty.sl TMade) r.1, .data Ty.bool r.2]) []) := ok_of_eq (F.impl_makes_eq tables plan h_tables h_plan) (hK _ rfl)
 refine ⟨⟨show (2 : Nat) ≤ 46 by decide, show (2 : Nat) ≤ 1000000 by decide⟩, ann87, (L87 tables plan), (.tup [(Ty.sl TMade), Ty.bool]), (loopsN1 (i0 := 0) (by kernel_rfl) ?_), ?_⟩
 ·clear h
  intro m_ s_ K_ h
  obtain ⟨hc0, i0, v0, rfl, hl0, rfl, hv0, h⟩ := (show LP87_0 tables plan m_ s_ K_ from h)
  rw [lvc87_0 tables plan i0 v0 _ K_]
  exact (loopE_step (t := TStep) hl0 h (fun ht0 h => ⟨hl0, ⟨ht0, ⟨(sm_nth h_plan i0), ⟨h_tables, ⟨(ok_guard h).1, have h := (ok_guard h).2; (fun r_7_3 e_r_7_3 => have h := ok_let h r_7_3 e_r_7_3; (ok_cond h (fun b_23 h => (ok_cond h (fun b_24 h => (ok_ret h :)) (fun b_24 h => ⟨(ok_guard h).1, have h := (ok_guard h).2; (loopE_next (t := TStep) (fun m hm => (show LP87_0 tables plan m _ _ from ⟨hc0, hm⟩)) (v0 ++ [r_7_3.1]) rfl hl0 ht0 (sm_len h_plan) trivial (ok_ret h :))⟩))) (fun b_23 h => (ok_ret h :))))⟩⟩⟩⟩⟩) (fun h => (h trivial)))
 ·rw [vc87 tables plan K]
  exact ⟨h_tables, (ok_cond h (fun b_1 h => (ok_cond h (fun b_2 h => (ok_ret h :)) (fun b_2 h => (loopE_start (t := TStep) (fun m hm => ⟨trivial, hm⟩) [] rfl trivial (ok_then h (fun v0 h hv0 => (ok_ret h :)) (fun q0 h => (ok_ret h :))))))) (fun b_1 h => (ok_ret h :)))⟩
def c41 : Con := ⟨[.dat (Ty.sl TTable), .dat (Ty.sl TStep)], fun args hp K => args2 (fun a0 a1 => withD (Ty.sl TTable) a0 fun tables => withD (Ty.sl TStep) a1 fun plan => (Sm (Ty.sl TTable) tables) ∧ (Sm (Ty.sl TStep) plan) ∧ K (.data Ty.bool (M.planOk tables plan)) []) args hp, .plain⟩
def cons41 : Cons := [(87, c87)]
@[reducible] def C41 : Ctx := ⟨tab, fun t => memN t cmps, cons41, 14, [], 0, false⟩
theorem consOk41 : ConsOk P C41 := by
 refine consOk_cons (enter_ok (fn := f87) func87 (by kernel_rfl) rfl) con87_ok ?_
 exact consOk_nil
def ann41 : Nat → List Dir
 | 0 => [.keep [0, 1]]
 | 1 => [.keep [6]]
 | 2 => [.keep [4]]
 | _ => []
def L41 (tables : (List (TTable).D)) (plan : (List (TStep).D)) : Loops := fun id m st_ K => match id with
 | _ => False
theorem vc41 (tables : (List (TTable).D)) (plan : (List (TStep).D)) (K : AV → Hp → Prop) : awp C41 (L41 tables plan) ann41 (bodyOf f41) ⟨argEnv 0 [.data (Ty.sl TTable) tables, .data (Ty.sl TStep) plan], []⟩ (outK tab false f41.results.toList (hasBox []) (resK (.dat Ty.bool) K)) =
 ((Sm (Ty.sl TTable) tables) ∧ (Sm (Ty.sl TStep) plan) ∧ (∀ r_1_2 : (List (TMade).D) × Bool, r_1_2 = (M.makes tables plan) → K (.data Ty.bool r_1_2.2) [])) := by kernel_rfl
theorem con41_ok : ConOk P 41 c41 := by
 refine con_okR (fn := f41) (code := bodyOf f41) (tab_ok tab_check cmp_check) consOk41 mixed func41 rfl rfl fun args hp K h0 => ?_
 obtain ⟨a0, a1, rfl, rfl, h1⟩ := args2_elim h0
 obtain ⟨tables, rfl, h2⟩ := withD_elim h1
 obtain ⟨plan, rfl, h3⟩ := withD_elim h2
 obtain ⟨h_tables, h_plan, hK⟩ := h3
 have h : ok (F.impl_PlanOk tables plan) (fun r => K (.data Ty.bool r) []) := ok_of_eq (F.impl_PlanOk_eq tables plan h_tables h_plan) hK
 refine ⟨⟨show (2 : Nat) ≤ 14 by decide, show (2 : Nat) ≤ 1000000 by decide⟩, ann41, (L41 tables plan), (.dat Ty.bool), (no_loops (by kernel_rfl)), ?_⟩
 ·rw [vc41 tables plan K]
  exact ⟨h_tables, ⟨h_plan, (fun r_1_2 e_r_1_2 => have h := ok_let h r_1_2 e_r_1_2; (ok_ret h :))⟩⟩
def cons89 : Cons := []
@[reducible] def C89 : Ctx := ⟨tab, fun t => memN t cmps, cons89, 8, [], 800000, true⟩
theorem consOk89 : ConsOk P C89 := by
 exact consOk_nil
def T89 : Inl := inlT C89 (fun _ => []) (bodyOf f89) f89.results.toList
theorem inlOk89 : InlOk P 89 T89 := inl_ok (fn := f89) (code := bodyOf f89) (tab_ok tab_check cmp_check) consOk89 mixed func89 rfl rfl (by kernel_rfl)
def cons184 : Cons := []
@[reducible] def C184 : Ctx := ⟨tab, fun t => memN t cmps, cons184, 9, [], 400000, true⟩
theorem consOk184 : ConsOk P C184 := by
 exact consOk_nil
def T184 : Inl := inlT C184 (fun _ => []) (bodyOf f184) f184.results.toList
theorem inlOk184 : InlOk P 184 T184 := inl_ok (fn := f184) (code := bodyOf f184) (tab_ok tab_check cmp_check) consOk184 mixed func184 rfl rfl (by kernel_rfl)
def c143 : Con := ⟨[.dat (Ty.sl TPart)], fun args hp K => args1 (fun a0 => withD (Ty.sl TPart) a0 fun xs => (Sm (Ty.sl TPart) xs) ∧ (∀ r : (List (TPart).D), r = (xs) → K (.clp 0 (r.length : Int)) [(0, .arr false TPart r)])) args hp, .bor⟩
def cons143 : Cons := []
@[reducible] def C143 : Ctx := ⟨tab, fun t => memN t cmps, cons143, 9, [(184, T184)], 0, true⟩
theorem consOk143 : ConsOk P C143 := by
 refine consOk_inl (enter_ok (fn := f184) func184 (by kernel_rfl) rfl) inlOk184 ?_
 exact consOk_nil
def ann143 : Nat → List Dir
 | 0 => [.keep [0]]
 | 1 => [.keep [0, 5]]
 | 2 => [.clip 2, .keep [2]]
 | 3 => [.keep [2]]
 | _ => []
def L143 (xs : (List (TPart).D)) : Loops := fun id m st_ K => match id with
 | _ => False
theorem vc143 (xs : (List (TPart).D)) (K : AV → Hp → Prop) : awp C143 (L143 xs) ann143 (bodyOf f143) ⟨argEnv 0 [.data (Ty.sl TPart) xs], []⟩ (outK tab true f143.results.toList (hasBox []) (resK .raw K)) =
 (cond (decide ((xs.length : Int) = (0 : Int))) (K (.clp 0 (([] : List TPart.D).length : Int)) [(0, .arr false TPart ([] : List TPart.D))]) ((xs.length * 48 ≤ lim) ∧ (0 ≤ (0 : Int)) ∧ ((0 : Int) ≤ (xs.length : Int)) ∧ ((xs.length : Int) ≤ (xs.length : Int)) ∧ ((xs.length : Int) = (xs.length : Int)) ∧ ((0 : Int) = 0) ∧ K (.clp 0 ((xs.take (xs.length : Int).toNat).length : Int)) [(0, .arr false TPart (xs.take (xs.length : Int).toNat))])) := by kernel_rfl
theorem con143_ok : ConOk P 143 c143 := by
 refine con_okR (fn := f143) (code := bodyOf f143) (tab_ok tab_check cmp_check) consOk143 mixed func143 rfl rfl fun args hp K h0 => ?_
 obtain ⟨a0, rfl, rfl, h1⟩ := args1_elim h0
 obtain ⟨xs, rfl, h2⟩ := withD_elim h1
 obtain ⟨h_xs, hK⟩ := h2
 have h : ok (F.clone_TPart xs) (fun r => K (.clp 0 (r.length : Int)) [(0, .arr false TPart r)]) := ok_of_eq (F.clone_TPart_eq xs h_xs) (hK _ rfl)
 refine ⟨⟨show (1 : Nat) ≤ 9 by decide, show (1 : Nat) ≤ 1000000 by decide⟩, ann143, (L143 xs), .raw, (no_loops (by kernel_rfl)), ?_⟩
 ·rw [vc143 xs K]
  exact (ok_cond h (fun b_1 h => (ok_ret h :)) (fun b_1 h => ⟨(sm_lim h_xs rfl), ⟨(Int.natCast_nonneg 0), ⟨(Int.natCast_nonneg _), ⟨(Int.le_refl _), ⟨rfl, ⟨rfl, (ok_ret h :)⟩⟩⟩⟩⟩⟩))
def cons185 : Cons := []
@[reducible] def C185 : Ctx := ⟨tab, fun t => memN t cmps, cons185, 9, [], 400000, true⟩
theorem consOk185 : ConsOk P C185 := by
 exact consOk_nil
def T185 : Inl := inlT C185 (fun _ => []) (bodyOf f185) f185.results.toList
theorem inlOk185 : InlOk P 185 T185 := inl_ok (fn := f185) (code := bodyOf f185) (tab_ok tab_check cmp_check) consOk185 mixed func185 rfl rfl (by kernel_rfl)
def c144 : Con := ⟨[.dat (Ty.sl TInt)], fun args hp K => args1 (fun a0 => withD (Ty.sl TInt) a0 fun xs => (Sm (Ty.sl TInt) xs) ∧ (∀ r : (List Int), r = (xs) → K (.clp 0 (r.length : Int)) [(0, .arr false TInt r)])) args hp, .bor⟩
def cons144 : Cons := []
@[reducible] def C144 : Ctx := ⟨tab, fun t => memN t cmps, cons144, 9, [(185, T185)], 0, true⟩
theorem consOk144 : ConsOk P C144 := by
 refine consOk_inl (enter_ok (fn := f185) func185 (by kernel_rfl) rfl) inlOk185 ?_
 exact consOk_nil
def ann144 : Nat → List Dir
 | 0 => [.keep [0]]
 | 1 => [.keep [0, 5]]
 | 2 => [.clip 2, .keep [2]]
 | 3 => [.keep [2]]
 | _ => []
def L144 (xs : (List Int)) : Loops := fun id m st_ K => match id with
 | _ => False
theorem vc144 (xs : (List Int)) (K : AV → Hp → Prop) : awp C144 (L144 xs) ann144 (bodyOf f144) ⟨argEnv 0 [.data (Ty.sl TInt) xs], []⟩ (outK tab true f144.results.toList (hasBox []) (resK .raw K)) =
 (cond (decide ((xs.length : Int) = (0 : Int))) (K (.clp 0 (([] : List TInt.D).length : Int)) [(0, .arr false TInt ([] : List TInt.D))]) ((xs.length * 8 ≤ lim) ∧ (0 ≤ (0 : Int)) ∧ ((0 : Int) ≤ (xs.length : Int)) ∧ ((xs.length : Int) ≤ (xs.length : Int)) ∧ ((xs.length : Int) = (xs.length : Int)) ∧ ((0 : Int) = 0) ∧ K (.clp 0 ((xs.take (xs.length : Int).toNat).length : Int)) [(0, .arr false TInt (xs.take (xs.length : Int).toNat))])) := by kernel_rfl
theorem con144_ok : ConOk P 144 c144 := by
 refine con_okR (fn := f144) (code := bodyOf f144) (tab_ok tab_check cmp_check) consOk144 mixed func144 rfl rfl fun args hp K h0 => ?_
 obtain ⟨a0, rfl, rfl, h1⟩ := args1_elim h0
 obtain ⟨xs, rfl, h2⟩ := withD_elim h1
 obtain ⟨h_xs, hK⟩ := h2
 have h : ok (F.clone_Inti64 xs) (fun r => K (.clp 0 (r.length : Int)) [(0, .arr false TInt r)]) := ok_of_eq (F.clone_Inti64_eq xs h_xs) (hK _ rfl)
 refine ⟨⟨show (1 : Nat) ≤ 9 by decide, show (1 : Nat) ≤ 1000000 by decide⟩, ann144, (L144 xs), .raw, (no_loops (by kernel_rfl)), ?_⟩
 ·rw [vc144 xs K]
  exact (ok_cond h (fun b_1 h => (ok_ret h :)) (fun b_1 h => ⟨(sm_lim h_xs rfl), ⟨(Int.natCast_nonneg 0), ⟨(Int.natCast_nonneg _), ⟨(Int.le_refl _), ⟨rfl, ⟨rfl, (ok_ret h :)⟩⟩⟩⟩⟩⟩))
def cons112 : Cons := [(143, c143), (144, c144)]
@[reducible] def C112 : Ctx := ⟨tab, fun t => memN t cmps, cons112, 12, [], 200000, true⟩
theorem consOk112 : ConsOk P C112 := by
 refine consOk_cons (enter_ok (fn := f143) func143 (by kernel_rfl) rfl) con143_ok ?_
 refine consOk_cons (enter_ok (fn := f144) func144 (by kernel_rfl) rfl) con144_ok ?_
 exact consOk_nil
def T112 : Inl := inlT C112 (fun _ => []) (bodyOf f112) f112.results.toList
theorem inlOk112 : InlOk P 112 T112 := inl_ok (fn := f112) (code := bodyOf f112) (tab_ok tab_check cmp_check) consOk112 mixed func112 rfl rfl (by kernel_rfl)
def c113 : Con := ⟨[.dat TInt], fun args hp K => args1 (fun a0 => withD TInt a0 fun kind => K (.data Ty.bool (M.two kind)) []) args hp, .plain⟩
def cons113 : Cons := []
@[reducible] def C113 : Ctx := ⟨tab, fun t => memN t cmps, cons113, 9, [], 0, false⟩
theorem consOk113 : ConsOk P C113 := by
 exact consOk_nil
def ann113 : Nat → List Dir
 | 0 => [.keep [0]]
 | 1 => [.keep [2]]
 | _ => []
def L113 (kind : Int) : Loops := fun id m st_ K => match id with
 | _ => False
theorem vc113 (kind : Int) (K : AV → Hp → Prop) : awp C113 (L113 kind) ann113 (bodyOf f113) ⟨argEnv 0 [.data TInt kind], []⟩ (outK tab false f113.results.toList (hasBox []) (resK (.dat Ty.bool) K)) =
 (cond ((decide (kind = (4 : Int))) == false) (K (.data Ty.bool (decide (kind = (5 : Int)))) []) (K (.data Ty.bool true) [])) := by kernel_rfl
theorem con113_ok : ConOk P 113 c113 := by
 refine con_okR (fn := f113) (code := bodyOf f113) (tab_ok tab_check cmp_check) consOk113 mixed func113 rfl rfl fun args hp K h0 => ?_
 obtain ⟨a0, rfl, rfl, h1⟩ := args1_elim h0
 obtain ⟨kind, rfl, h2⟩ := withD_elim h1
 have hK := h2
 have h : ok (F.impl_names2 kind) (fun r => K (.data Ty.bool r) []) := ok_of_eq (F.impl_names2_eq kind) hK
 refine ⟨⟨show (1 : Nat) ≤ 9 by decide, show (1 : Nat) ≤ 1000000 by decide⟩, ann113, (L113 kind), (.dat Ty.bool), (no_loops (by kernel_rfl)), ?_⟩
 ·rw [vc113 kind K]
  exact (ok_cond h (fun b_1 h => (ok_ret h :)) (fun b_1 h => (ok_ret h :)))
def cons69 : Cons := [(113, c113)]
@[reducible] def C69 : Ctx := ⟨tab, fun t => memN t cmps, cons69, 25, [(89, T89), (112, T112)], 600000, true⟩
theorem consOk69 : ConsOk P C69 := by
 refine consOk_cons (enter_ok (fn := f113) func113 (by kernel_rfl) rfl) con113_ok ?_
 refine consOk_inl (enter_ok (fn := f89) func89 (by kernel_rfl) rfl) inlOk89 ?_
 refine consOk_inl (enter_ok (fn := f112) func112 (by kernel_rfl) rfl) inlOk112 ?_
 exact consOk_nil
def T69 : Inl := inlT C69 (fun _ => []) (bodyOf f69) f69.results.toList
theorem inlOk69 : InlOk P 69 T69 := inl_ok (fn := f69) (code := bodyOf f69) (tab_ok tab_check cmp_check) consOk69 mixed func69 rfl rfl (by kernel_rfl)
def c88 : Con := ⟨[.dat (Ty.sl TStep)], fun args hp K => args1 (fun a0 => withD (Ty.sl TStep) a0 fun plan => (Sm (Ty.sl TStep) plan) ∧ (M.refsOk plan) ∧ (∀ r : (List Bool), r = (M.needs plan) → K (.own 0 none) [(0, .arr false Ty.bool r)])) args hp, .plain⟩
def cons88 : Cons := []
@[reducible] def C88 : Ctx := ⟨tab, fun t => memN t cmps, cons88, 51, [], 0, false⟩
theorem consOk88 : ConsOk P C88 := by
 exact consOk_nil
def ann88 : Nat → List Dir
 | 0 => [.keep [0]]
 | 1 => [.keep [0, 3]]
 | 2 => [.keep [0, 3]]
 | 3 => [.keep [0, 3, 4]]
 | 4 => [.keep [0, 3, 4, 18]]
 | 5 => [.keep [0, 3, 4]]
 | 6 => [.fixRow 5 TStep, .keep [0, 3, 4, 5]]
 | 7 => [.keep [0, 3, 4, 5, 33]]
 | 8 => [.keep [0, 3, 4, 5]]
 | 9 => [.keep [0, 3, 4, 5, 45]]
 | 10 => [.keep [0, 3, 4]]
 | 11 => [.keep [2]]
 | 100000 => [.keep [3]]
 | _ => []
@[reducible] def LP88_0 (plan : (List (TStep).D)) (m : Nat) (st_ : St) (K : X → St → Prop) : Prop := (True) ∧ LoopW (fun v0 : Int × (List Bool) => (⟨[(0, .data (Ty.sl TStep) plan), (3, .own 8 none), (4, .data TInt v0.1)], [(8, .arr false Ty.bool v0.2)]⟩ : St)) (F.impl_needs_l0 plan) (fun v0 : Int × (List Bool) => True) ((fun e0 : (List Bool) => True → K (.exit 0) (⟨[(3, .own 8 none)], [(8, .arr false Ty.bool e0)]⟩ : St))) m st_
def L88 (plan : (List (TStep).D)) : Loops := fun id m st_ K => match id with
 | 0 => LP88_0 plan m st_ K
 | _ => False
theorem vc88 (plan : (List (TStep).D)) (K : AV → Hp → Prop) : awp C88 (L88 plan) ann88 (bodyOf f88) ⟨argEnv 0 [.data (Ty.sl TStep) plan], []⟩ (outK tab false f88.results.toList (hasBox []) (resK .raw K)) =
 (((plan.length : Int) = (plan.length : Int)) ∧ (0 ≤ (plan.length : Int)) ∧ ((plan.length : Int) * 1 ≤ (lim : Int)) ∧ (0 ≤ wrap64 ((plan.length : Int) - (1 : Int))) ∧ (wrap64 ((plan.length : Int) - (1 : Int)) < ((List.replicate (plan.length : Int).toNat false).length : Int)) ∧ (let y_2_5 : (List Bool) := ((List.replicate (plan.length : Int).toNat false).set (wrap64 ((plan.length : Int) - (1 : Int))).toNat true); (∃ m_, (True) ∧ LoopW (fun v0 : Int × (List Bool) => (⟨[(0, .data (Ty.sl TStep) plan), (3, .own 8 none), (4, .data TInt v0.1)], [(8, .arr false Ty.bool v0.2)]⟩ : St)) (F.impl_needs_l0 plan) (fun v0 : Int × (List Bool) => True) ((fun e0 : (List Bool) => True → K (.own 0 none) [(0, .arr false Ty.bool e0)])) m_ (⟨[(0, .data (Ty.sl TStep) plan), (3, .own 8 none), (4, .data TInt (wrap64 ((plan.length : Int) - (1 : Int))))], [(8, .arr false Ty.bool y_2_5)]⟩ : St)))) := by kernel_rfl
@[reducible] def S88l0_0 (plan : (List (TStep).D))  (v0 : Int × (List Bool)) (m : Nat) (K : X → St → Prop) : Prop := (0 ≤ (((nth (t := TStep) plan v0.1).2).2).1) ∧ ((((nth (t := TStep) plan v0.1).2).2).1 < ((v0.2.set (((nth (t := TStep) plan v0.1).2).1).toNat true).length : Int)) ∧ (let y_10_4 : (List Bool) := ((v0.2.set (((nth (t := TStep) plan v0.1).2).1).toNat true).set ((((nth (t := TStep) plan v0.1).2).2).1).toNat true); (∃ m_, m_ < m ∧ (L88 plan) 0 m_ (⟨[(0, .data (Ty.sl TStep) plan), (3, .own 8 none), (4, .data TInt (wrap64 (v0.1 - (1 : Int))))], [(8, .arr false Ty.bool y_10_4)]⟩ : St) K))
@[reducible] def S88l0_1 (plan : (List (TStep).D))  (v0 : Int × (List Bool)) (m : Nat) (K : X → St → Prop) : Prop := (∃ m_, m_ < m ∧ (L88 plan) 0 m_ (⟨[(0, .data (Ty.sl TStep) plan), (3, .own 8 none), (4, .data TInt (wrap64 (v0.1 - (1 : Int))))], [(8, .arr false Ty.bool v0.2)]⟩ : St) K)
theorem lvc88_0 (plan : (List (TStep).D))  (v0 : Int × (List Bool)) (m : Nat) (K : X → St → Prop) : awp C88 (L88 plan) ann88 (loopAt (bodyOf f88) 0) (⟨[(0, .data (Ty.sl TStep) plan), (3, .own 8 none), (4, .data TInt v0.1)], [(8, .arr false Ty.bool v0.2)]⟩ : St) (thenW (fun s' => ∃ m', m' < m ∧ (L88 plan) 0 m' s' K) (exitN 0 (ann88 (behind 0)) K)) =
 (cond (decide ((0 : Int) ≤ v0.1)) ((0 ≤ v0.1) ∧ (v0.1 < (plan.length : Int)) ∧ (0 ≤ v0.1) ∧ (v0.1 < (v0.2.length : Int)) ∧ cond ((nth (t := Ty.bool) v0.2 v0.1) == true) (cond (!decide ((nth (t := TStep) plan v0.1).1 = (1 : Int))) ((0 ≤ ((nth (t := TStep) plan v0.1).2).1) ∧ (((nth (t := TStep) plan v0.1).2).1 < (v0.2.length : Int)) ∧ cond ((decide ((nth (t := TStep) plan v0.1).1 = (4 : Int))) == false) (cond (decide ((nth (t := TStep) plan v0.1).1 = (5 : Int))) ((S88l0_0  plan v0 m K)) ((∃ m_, m_ < m ∧ (L88 plan) 0 m_ (⟨[(0, .data (Ty.sl TStep) plan), (3, .own 8 none), (4, .data TInt (wrap64 (v0.1 - (1 : Int))))], [(8, .arr false Ty.bool (v0.2.set (((nth (t := TStep) plan v0.1).2).1).toNat true))]⟩ : St) K))) ((S88l0_0  plan v0 m K))) ((S88l0_1  plan v0 m K))) ((S88l0_1  plan v0 m K))) (K (.exit 0) (⟨[(3, .own 8 none)], [(8, .arr false Ty.bool v0.2)]⟩ : St))) := by kernel_rfl
theorem con88_ok : ConOk P 88 c88 := by
 refine con_okR (fn := f88) (code := bodyOf f88) (tab_ok tab_check cmp_check) consOk88 mixed func88 rfl rfl fun args hp K h0 => ?_
 obtain ⟨a0, rfl, rfl, h1⟩ := args1_elim h0
 obtain ⟨plan, rfl, h2⟩ := withD_elim h1
 obtain ⟨h_plan, p0, hK⟩ := h2
 have h : ok (F.impl_needs plan) (fun r => K (.own 0 none) [(0, .arr false Ty.bool r)]) := ok_of_eq (F.impl_needs_eq plan h_plan p0) (hK _ rfl)
 refine ⟨⟨show (1 : Nat) ≤ 51 by decide, show (1 : Nat) ≤ 1000000 by decide⟩, ann88, (L88 plan), .raw, (loopsN1 (i0 := 0) (by kernel_rfl) ?_), ?_⟩
 ·clear h
  intro m_ s_ K_ h
  obtain ⟨hc0, v0, rfl, hv0, h⟩ := (show LP88_0 plan m_ s_ K_ from h)
  rw [lvc88_0 plan v0 _ K_]
  exact (loopW_step h (fun m1 hm0 h => (ok_cond h (fun b_17 h => ⟨(ok_guard h).1, have g_18 := (ok_guard h).1; have h := (ok_guard h).2; ⟨(ok_guard h).1, have h := (ok_guard h).2; ⟨g_18, ⟨(ok_guard h).1, have h := (ok_guard h).2; (ok_cond h (fun b_21 h => (ok_cond h (fun b_22 h => ⟨(ok_guard h).1, have h := (ok_guard h).2; ⟨(ok_guard h).1, have h := (ok_guard h).2; (ok_cond h (fun b_25 h => (ok_cond h (fun b_26 h => ⟨(ok_guard h).1, have h := (ok_guard h).2; ⟨(ok_guard h).1, have h := (ok_guard h).2; (let y_10_4 : (List Bool) := ((v0.2.set (((nth (t := TStep) plan v0.1).2).1).toNat true).set ((((nth (t := TStep) plan v0.1).2).2).1).toNat true); have h := ok_let h y_10_4 rfl; (loopW_next (fun m hm => (show LP88_0 plan m _ _ from ⟨hc0, hm⟩)) hm0 (wrap64 (v0.1 - (1 : Int)), y_10_4) rfl trivial (ok_ret h :)))⟩⟩) (fun b_26 h => (loopW_next (fun m hm => (show LP88_0 plan m _ _ from ⟨hc0, hm⟩)) hm0 (wrap64 (v0.1 - (1 : Int)), (v0.2.set (((nth (t := TStep) plan v0.1).2).1).toNat true)) rfl trivial (ok_ret h :))))) (fun b_25 h => ⟨(ok_guard h).1, have h := (ok_guard h).2; ⟨(ok_guard h).1, have h := (ok_guard h).2; (let y_10_4 : (List Bool) := ((v0.2.set (((nth (t := TStep) plan v0.1).2).1).toNat true).set ((((nth (t := TStep) plan v0.1).2).2).1).toNat true); have h := ok_let h y_10_4 rfl; (loopW_next (fun m hm => (show LP88_0 plan m _ _ from ⟨hc0, hm⟩)) hm0 (wrap64 (v0.1 - (1 : Int)), y_10_4) rfl trivial (ok_ret h :)))⟩⟩))⟩⟩) (fun b_22 h => (loopW_next (fun m hm => (show LP88_0 plan m _ _ from ⟨hc0, hm⟩)) hm0 (wrap64 (v0.1 - (1 : Int)), v0.2) rfl trivial (ok_ret h :))))) (fun b_21 h => (loopW_next (fun m hm => (show LP88_0 plan m _ _ from ⟨hc0, hm⟩)) hm0 (wrap64 (v0.1 - (1 : Int)), v0.2) rfl trivial (ok_ret h :))))⟩⟩⟩⟩) (fun b_17 h => ((ok_ret h :) trivial)))))
 ·rw [vc88 plan K]
  exact ⟨rfl, ⟨(Int.natCast_nonneg _), ⟨(sm_limI h_plan rfl), ⟨(ok_guard h).1, have h := (ok_guard h).2; ⟨(ok_guard h).1, have h := (ok_guard h).2; (let y_2_5 : (List Bool) := ((List.replicate (plan.length : Int).toNat false).set (wrap64 ((plan.length : Int) - (1 : Int))).toNat true); have h := ok_let h y_2_5 rfl; (loopW_start (fun m hm => ⟨trivial, hm⟩) (wrap64 ((plan.length : Int) - (1 : Int)), y_2_5) rfl trivial (ok_bind h (fun e0 h hv0 => (ok_ret h :)))))⟩⟩⟩⟩⟩
def cons90 : Cons := []
@[reducible] def C90 : Ctx := ⟨tab, fun t => memN t cmps, cons90, 9, [], 400000, true⟩
theorem consOk90 : ConsOk P C90 := by
 exact consOk_nil
def T90 : Inl := inlT C90 (fun _ => []) (bodyOf f90) f90.results.toList
theorem inlOk90 : InlOk P 90 T90 := inl_ok (fn := f90) (code := bodyOf f90) (tab_ok tab_check cmp_check) consOk90 mixed func90 rfl rfl (by kernel_rfl)
def c42 : Con := ⟨[.dat (Ty.sl TStep)], fun args hp K => args1 (fun a0 => withD (Ty.sl TStep) a0 fun plan => (Sm (Ty.sl TStep) plan) ∧ (M.refsOk plan) ∧ (∀ r : (List (TStep).D), r = (M.tidy plan) → K (.clp 0 (r.length : Int)) [(0, .arr true TStep r)])) args hp, .bor⟩
def cons42 : Cons := [(88, c88)]
@[reducible] def C42 : Ctx := ⟨tab, fun t => memN t cmps, cons42, 36, [(69, T69), (89, T89), (90, T90)], 0, true⟩
theorem consOk42 : ConsOk P C42 := by
 refine consOk_cons (enter_ok (fn := f88) func88 (by kernel_rfl) rfl) con88_ok ?_
 refine consOk_inl (enter_ok (fn := f69) func69 (by kernel_rfl) rfl) inlOk69 ?_
 refine consOk_inl (enter_ok (fn := f89) func89 (by kernel_rfl) rfl) inlOk89 ?_
 refine consOk_inl (enter_ok (fn := f90) func90 (by kernel_rfl) rfl) inlOk90 ?_
 exact consOk_nil
def ann42 : Nat → List Dir
 | 0 => [.keep [0]]
 | 1 => [.fixBox 3, .keep [0, 3]]
 | 2 => [.keep [0, 3, 4]]
 | 3 => [.keep [0, 3, 4, 11, 12, 13]]
 | 4 => [.keep [0, 3, 4, 11, 12, 13, 14]]
 | 5 => [.keep [0, 3, 4, 5, 6, 11, 12, 13]]
 | 6 => [.keep [0, 3, 4, 5, 11, 12, 13, 18]]
 | 7 => [.keep [0, 3, 4, 5, 11, 12, 13]]
 | 8 => [.keep [0, 3, 4, 11, 12, 13]]
 | 9 => [.keep [0, 3, 4, 11, 12, 13]]
 | 10 => [.keep [2]]
 | 100000 => [.keep [4]]
 | _ => []
@[reducible] def LP42_0 (plan : (List (TStep).D)) (m : Nat) (st_ : St) (K : X → St → Prop) : Prop := ∃ c0_0 : Int, ∃ c0_1 : (List Bool), (c0_0 ≤ top63 ∧ True) ∧ LoopI (fun (i0 : Int) (v0 : (List (TStep).D) × (List Int)) => (⟨[(0, .data (Ty.sl TStep) plan), (3, .ptr 3 0), (4, .own 4 none), (11, .own 11 none), (12, .data TInt c0_0), (13, .data TInt i0)], [(3, .box [.own 9 none]), (4, .arr true TStep v0.1), (11, .arr false Ty.bool c0_1), (9, .arr false TInt v0.2)]⟩ : St)) (0 : Int) c0_0 (F.impl_tidy_l0 plan c0_0 c0_1) (fun v0 : (List (TStep).D) × (List Int) => True) (outD (fun v0 : (List (TStep).D) × (List Int) => True → K (.exit 0) (⟨[(4, .own 4 none)], [(4, .arr true TStep v0.1)]⟩ : St)) (fun _ => False)) m st_
def L42 (plan : (List (TStep).D)) : Loops := fun id m st_ K => match id with
 | 0 => LP42_0 plan m st_ K
 | _ => False
theorem vc42 (plan : (List (TStep).D)) (K : AV → Hp → Prop) : awp C42 (L42 plan) ann42 (bodyOf f42) ⟨argEnv 0 [.data (Ty.sl TStep) plan], []⟩ (outK tab true f42.results.toList (hasBox []) (resK .raw K)) =
 (((plan.length : Int) = (plan.length : Int)) ∧ (0 ≤ (plan.length : Int)) ∧ ((plan.length : Int) * 8 ≤ (lim : Int)) ∧ (Sm (Ty.sl TStep) plan) ∧ (M.refsOk plan) ∧ (∀ r_3_1 : (List Bool), r_3_1 = (M.needs plan) → (∃ m_, ∃ c0_0 : Int, ∃ c0_1 : (List Bool), (c0_0 ≤ top63 ∧ True) ∧ LoopI (fun (i0 : Int) (v0 : (List (TStep).D) × (List Int)) => (⟨[(0, .data (Ty.sl TStep) plan), (3, .ptr 3 0), (4, .own 4 none), (11, .own 11 none), (12, .data TInt c0_0), (13, .data TInt i0)], [(3, .box [.own 9 none]), (4, .arr true TStep v0.1), (11, .arr false Ty.bool c0_1), (9, .arr false TInt v0.2)]⟩ : St)) (0 : Int) c0_0 (F.impl_tidy_l0 plan c0_0 c0_1) (fun v0 : (List (TStep).D) × (List Int) => True) (outD (fun v0 : (List (TStep).D) × (List Int) => True → (0 ≤ (0 : Int)) ∧ ((0 : Int) ≤ (v0.1.length : Int)) ∧ ((v0.1.length : Int) ≤ (v0.1.length : Int)) ∧ ((v0.1.length : Int) = (v0.1.length : Int)) ∧ ((0 : Int) = 0) ∧ K (.clp 0 ((v0.1.take (v0.1.length : Int).toNat).length : Int)) [(0, .arr true TStep (v0.1.take (v0.1.length : Int).toNat))]) (fun _ => False)) m_ (⟨[(0, .data (Ty.sl TStep) plan), (3, .ptr 3 0), (4, .own 4 none), (11, .own 11 none), (12, .data TInt (r_3_1.length : Int)), (13, .data TInt (0 : Int))], [(3, .box [.own 9 none]), (4, .arr true TStep []), (11, .arr false Ty.bool r_3_1), (9, .arr false TInt (List.replicate (plan.length : Int).toNat (0 : Int)))]⟩ : St)))) := by kernel_rfl
theorem lvc42_0 (plan : (List (TStep).D)) (c0_0 : Int) (c0_1 : (List Bool)) (i0 : Int) (v0 : (List (TStep).D) × (List Int)) (m : Nat) (K : X → St → Prop) : awp C42 (L42 plan) ann42 (loopAt (bodyOf f42) 0) (⟨[(0, .data (Ty.sl TStep) plan), (3, .ptr 3 0), (4, .own 4 none), (11, .own 11 none), (12, .data TInt c0_0), (13, .data TInt i0)], [(3, .box [.own 9 none]), (4, .arr true TStep v0.1), (11, .arr false Ty.bool c0_1), (9, .arr false TInt v0.2)]⟩ : St) (thenW (fun s' => ∃ m', m' < m ∧ (L42 plan) 0 m' s' K) (exitN 0 (ann42 (behind 0)) K)) =
 (cond (decide (i0 < c0_0)) ((0 ≤ i0) ∧ (i0 < (c0_1.length : Int)) ∧ cond (nth (t := Ty.bool) c0_1 i0) ((0 ≤ i0) ∧ (i0 < (v0.2.length : Int)) ∧ (0 ≤ i0) ∧ (i0 < (plan.length : Int)) ∧ (Sm (Ty.sl TPart) ((((((nth (t := TStep) plan i0).2).2).2).2).1)) ∧ (∀ r_2001_2 : (List (TPart).D), r_2001_2 = (((((((nth (t := TStep) plan i0).2).2).2).2).1)) → (Sm (Ty.sl TInt) (((((((nth (t := TStep) plan i0).2).2).2).2).2).1)) ∧ (∀ r_2001_5 : (List Int), r_2001_5 = ((((((((nth (t := TStep) plan i0).2).2).2).2).2).1)) → cond (!decide ((nth (t := TStep) plan i0).1 = (1 : Int))) ((0 ≤ ((nth (t := TStep) plan i0).2).1) ∧ (((nth (t := TStep) plan i0).2).1 < ((v0.2.set i0.toNat (v0.1.length : Int)).length : Int)) ∧ cond (M.two ((nth (t := TStep) plan i0).1)) ((0 ≤ (((nth (t := TStep) plan i0).2).2).1) ∧ ((((nth (t := TStep) plan i0).2).2).1 < ((v0.2.set i0.toNat (v0.1.length : Int)).length : Int)) ∧ ((v0.1.length + [((nth (t := TStep) plan i0).1, ((nth (t := TInt) (v0.2.set i0.toNat (v0.1.length : Int)) (((nth (t := TStep) plan i0).2).1)), ((nth (t := TInt) (v0.2.set i0.toNat (v0.1.length : Int)) ((((nth (t := TStep) plan i0).2).2).1)), (((((nth (t := TStep) plan i0).2).2).2).1, ((cutList r_2001_2 (some ((0 : Int), (r_2001_2.length : Int)))), ((cutList r_2001_5 (some ((0 : Int), (r_2001_5.length : Int)))), ()))))))].length) * 80 ≤ lim) ∧ (∃ m_, m_ < m ∧ (L42 plan) 0 m_ (⟨[(0, .data (Ty.sl TStep) plan), (3, .ptr 3 0), (4, .own 4 none), (11, .own 11 none), (12, .data TInt c0_0), (13, .data TInt (wrap64 (i0 + (1 : Int))))], [(3, .box [.own 9 none]), (4, .arr true TStep (v0.1 ++ [((nth (t := TStep) plan i0).1, ((nth (t := TInt) (v0.2.set i0.toNat (v0.1.length : Int)) (((nth (t := TStep) plan i0).2).1)), ((nth (t := TInt) (v0.2.set i0.toNat (v0.1.length : Int)) ((((nth (t := TStep) plan i0).2).2).1)), (((((nth (t := TStep) plan i0).2).2).2).1, ((cutList r_2001_2 (some ((0 : Int), (r_2001_2.length : Int)))), ((cutList r_2001_5 (some ((0 : Int), (r_2001_5.length : Int)))), ()))))))])), (11, .arr false Ty.bool c0_1), (9, .arr false TInt (v0.2.set i0.toNat (v0.1.length : Int)))]⟩ : St) K)) (((v0.1.length + [((nth (t := TStep) plan i0).1, ((nth (t := TInt) (v0.2.set i0.toNat (v0.1.length : Int)) (((nth (t := TStep) plan i0).2).1)), ((((nth (t := TStep) plan i0).2).2).1, (((((nth (t := TStep) plan i0).2).2).2).1, ((cutList r_2001_2 (some ((0 : Int), (r_2001_2.length : Int)))), ((cutList r_2001_5 (some ((0 : Int), (r_2001_5.length : Int)))), ()))))))].length) * 80 ≤ lim) ∧ (∃ m_, m_ < m ∧ (L42 plan) 0 m_ (⟨[(0, .data (Ty.sl TStep) plan), (3, .ptr 3 0), (4, .own 4 none), (11, .own 11 none), (12, .data TInt c0_0), (13, .data TInt (wrap64 (i0 + (1 : Int))))], [(3, .box [.own 9 none]), (4, .arr true TStep (v0.1 ++ [((nth (t := TStep) plan i0).1, ((nth (t := TInt) (v0.2.set i0.toNat (v0.1.length : Int)) (((nth (t := TStep) plan i0).2).1)), ((((nth (t := TStep) plan i0).2).2).1, (((((nth (t := TStep) plan i0).2).2).2).1, ((cutList r_2001_2 (some ((0 : Int), (r_2001_2.length : Int)))), ((cutList r_2001_5 (some ((0 : Int), (r_2001_5.length : Int)))), ()))))))])), (11, .arr false Ty.bool c0_1), (9, .arr false TInt (v0.2.set i0.toNat (v0.1.length : Int)))]⟩ : St) K))) (cond (M.two ((nth (t := TStep) plan i0).1)) ((0 ≤ (((nth (t := TStep) plan i0).2).2).1) ∧ ((((nth (t := TStep) plan i0).2).2).1 < ((v0.2.set i0.toNat (v0.1.length : Int)).length : Int)) ∧ ((v0.1.length + [((nth (t := TStep) plan i0).1, (((nth (t := TStep) plan i0).2).1, ((nth (t := TInt) (v0.2.set i0.toNat (v0.1.length : Int)) ((((nth (t := TStep) plan i0).2).2).1)), (((((nth (t := TStep) plan i0).2).2).2).1, ((cutList r_2001_2 (some ((0 : Int), (r_2001_2.length : Int)))), ((cutList r_2001_5 (some ((0 : Int), (r_2001_5.length : Int)))), ()))))))].length) * 80 ≤ lim) ∧ (∃ m_, m_ < m ∧ (L42 plan) 0 m_ (⟨[(0, .data (Ty.sl TStep) plan), (3, .ptr 3 0), (4, .own 4 none), (11, .own 11 none), (12, .data TInt c0_0), (13, .data TInt (wrap64 (i0 + (1 : Int))))], [(3, .box [.own 9 none]), (4, .arr true TStep (v0.1 ++ [((nth (t := TStep) plan i0).1, (((nth (t := TStep) plan i0).2).1, ((nth (t := TInt) (v0.2.set i0.toNat (v0.1.length : Int)) ((((nth (t := TStep) plan i0).2).2).1)), (((((nth (t := TStep) plan i0).2).2).2).1, ((cutList r_2001_2 (some ((0 : Int), (r_2001_2.length : Int)))), ((cutList r_2001_5 (some ((0 : Int), (r_2001_5.length : Int)))), ()))))))])), (11, .arr false Ty.bool c0_1), (9, .arr false TInt (v0.2.set i0.toNat (v0.1.length : Int)))]⟩ : St) K)) (((v0.1.length + [((nth (t := TStep) plan i0).1, (((nth (t := TStep) plan i0).2).1, ((((nth (t := TStep) plan i0).2).2).1, (((((nth (t := TStep) plan i0).2).2).2).1, ((cutList r_2001_2 (some ((0 : Int), (r_2001_2.length : Int)))), ((cutList r_2001_5 (some ((0 : Int), (r_2001_5.length : Int)))), ()))))))].length) * 80 ≤ lim) ∧ (∃ m_, m_ < m ∧ (L42 plan) 0 m_ (⟨[(0, .data (Ty.sl TStep) plan), (3, .ptr 3 0), (4, .own 4 none), (11, .own 11 none), (12, .data TInt c0_0), (13, .data TInt (wrap64 (i0 + (1 : Int))))], [(3, .box [.own 9 none]), (4, .arr true TStep (v0.1 ++ [((nth (t := TStep) plan i0).1, (((nth (t := TStep) plan i0).2).1, ((((nth (t := TStep) plan i0).2).2).1, (((((nth (t := TStep) plan i0).2).2).2).1, ((cutList r_2001_2 (some ((0 : Int), (r_2001_2.length : Int)))), ((cutList r_2001_5 (some ((0 : Int), (r_2001_5.length : Int)))), ()))))))])), (11, .arr false Ty.bool c0_1), (9, .arr false TInt (v0.2.set i0.toNat (v0.1.length : Int)))]⟩ : St) K)))))) ((∃ m_, m_ < m ∧ (L42 plan) 0 m_ (⟨[(0, .data (Ty.sl TStep) plan), (3, .ptr 3 0), (4, .own 4 none), (11, .own 11 none), (12, .data TInt c0_0), (13, .data TInt (wrap64 (i0 + (1 : Int))))], [(3, .box [.own 9 none]), (4, .arr true TStep v0.1), (11, .arr false Ty.bool c0_1), (9, .arr false TInt v0.2)]⟩ : St) K))) (K (.exit 0) (⟨[(4, .own 4 none)], [(4, .arr true TStep v0.1)]⟩ : St))) := by kernel_rfl
theorem con42_ok : ConOk P 42 c42 := by
 refine con_okR (fn := f42) (code := bodyOf f42) (tab_ok tab_check cmp_check) consOk42 mixed func42 rfl rfl fun args hp K h0 => ?_
 obtain ⟨a0, rfl, rfl, h1⟩ := args1_elim h0
 obtain ⟨plan, rfl, h2⟩ := withD_elim h1
 obtain ⟨h_plan, p0, hK⟩ := h2
 have h : ok (F.impl_tidy plan) (fun r => K (.clp 0 (r.length : Int)) [(0, .arr true TStep r)]) := ok_of_eq (F.impl_tidy_eq plan h_plan p0) (hK _ rfl)
 refine ⟨⟨show (1 : Nat) ≤ 36 by decide, show (1 : Nat) ≤ 1000000 by decide⟩, ann42, (L42 plan), .raw, (loopsN1 (i0 := 0) (by kernel_rfl) ?_), ?_⟩
 ·clear h
  intro m_ s_ K_ h
  obtain ⟨c0_0, c0_1, hc0, i0, v0, rfl, hl0, rfl, hv0, h⟩ := (show LP42_0 plan m_ s_ K_ from h)
  rw [lvc42_0 plan c0_0 c0_1 i0 v0 _ K_]
  exact (loopI_step h (fun ht0 h => ⟨hl0, ⟨(ok_guard h).1, have h := (ok_guard h).2; (ok_cond h (fun b_50022 h => ⟨hl0, ⟨(ok_guard h).1, have h := (ok_guard h).2; ⟨hl0, ⟨(ok_guard h).1, have h := (ok_guard h).2; ⟨(sm_nth h_plan i0).2.2.2.2.1, (fun r_2001_2 e_r_2001_2 => have h := ok_let h r_2001_2 e_r_2001_2; ⟨(sm_nth h_plan i0).2.2.2.2.2.1, (fun r_2001_5 e_r_2001_5 => have h := ok_let h r_2001_5 e_r_2001_5; (ok_cond h (fun b_70025 h => ⟨(ok_guard h).1, have h := (ok_guard h).2; ⟨(ok_guard h).1, have h := (ok_guard h).2; (ok_cond h (fun b_80028 h => ⟨(ok_guard h).1, have h := (ok_guard h).2; ⟨(ok_guard h).1, have h := (ok_guard h).2; ⟨(ok_guard h).1, have h := (ok_guard h).2; (loopI_next (fun m hm => (show LP42_0 plan m _ _ from ⟨c0_0, c0_1, hc0, hm⟩)) ((v0.1 ++ [((nth (t := TStep) plan i0).1, ((nth (t := TInt) (v0.2.set i0.toNat (v0.1.length : Int)) (((nth (t := TStep) plan i0).2).1)), ((nth (t := TInt) (v0.2.set i0.toNat (v0.1.length : Int)) ((((nth (t := TStep) plan i0).2).2).1)), (((((nth (t := TStep) plan i0).2).2).2).1, ((cutList r_2001_2 (some ((0 : Int), (r_2001_2.length : Int)))), ((cutList r_2001_5 (some ((0 : Int), (r_2001_5.length : Int)))), ()))))))]), (v0.2.set i0.toNat (v0.1.length : Int))) rfl hl0 low0 ht0 hc0.1 trivial (ok_ret h :))⟩⟩⟩) (fun b_80028 h => ⟨(ok_guard h).1, have h := (ok_guard h).2; (loopI_next (fun m hm => (show LP42_0 plan m _ _ from ⟨c0_0, c0_1, hc0, hm⟩)) ((v0.1 ++ [((nth (t := TStep) plan i0).1, ((nth (t := TInt) (v0.2.set i0.toNat (v0.1.length : Int)) (((nth (t := TStep) plan i0).2).1)), ((((nth (t := TStep) plan i0).2).2).1, (((((nth (t := TStep) plan i0).2).2).2).1, ((cutList r_2001_2 (some ((0 : Int), (r_2001_2.length : Int)))), ((cutList r_2001_5 (some ((0 : Int), (r_2001_5.length : Int)))), ()))))))]), (v0.2.set i0.toNat (v0.1.length : Int))) rfl hl0 low0 ht0 hc0.1 trivial (ok_ret h :))⟩))⟩⟩) (fun b_70025 h => (ok_cond h (fun b_90033 h => ⟨(ok_guard h).1, have h := (ok_guard h).2; ⟨(ok_guard h).1, have h := (ok_guard h).2; ⟨(ok_guard h).1, have h := (ok_guard h).2; (loopI_next (fun m hm => (show LP42_0 plan m _ _ from ⟨c0_0, c0_1, hc0, hm⟩)) ((v0.1 ++ [((nth (t := TStep) plan i0).1, (((nth (t := TStep) plan i0).2).1, ((nth (t := TInt) (v0.2.set i0.toNat (v0.1.length : Int)) ((((nth (t := TStep) plan i0).2).2).1)), (((((nth (t := TStep) plan i0).2).2).2).1, ((cutList r_2001_2 (some ((0 : Int), (r_2001_2.length : Int)))), ((cutList r_2001_5 (some ((0 : Int), (r_2001_5.length : Int)))), ()))))))]), (v0.2.set i0.toNat (v0.1.length : Int))) rfl hl0 low0 ht0 hc0.1 trivial (ok_ret h :))⟩⟩⟩) (fun b_90033 h => ⟨(ok_guard h).1, have h := (ok_guard h).2; (loopI_next (fun m hm => (show LP42_0 plan m _ _ from ⟨c0_0, c0_1, hc0, hm⟩)) ((v0.1 ++ [((nth (t := TStep) plan i0).1, (((nth (t := TStep) plan i0).2).1, ((((nth (t := TStep) plan i0).2).2).1, (((((nth (t := TStep) plan i0).2).2).2).1, ((cutList r_2001_2 (some ((0 : Int), (r_2001_2.length : Int)))), ((cutList r_2001_5 (some ((0 : Int), (r_2001_5.length : Int)))), ()))))))]), (v0.2.set i0.toNat (v0.1.length : Int))) rfl hl0 low0 ht0 hc0.1 trivial (ok_ret h :))⟩)))))⟩)⟩⟩⟩⟩⟩) (fun b_50022 h => (loopI_next (fun m hm => (show LP42_0 plan m _ _ from ⟨c0_0, c0_1, hc0, hm⟩)) (v0.1, v0.2) rfl hl0 low0 ht0 hc0.1 trivial (ok_ret h :))))⟩⟩) (fun h => (h trivial)))
 ·rw [vc42 plan K]
  exact ⟨rfl, ⟨(Int.natCast_nonneg _), ⟨(sm_limI h_plan rfl), ⟨h_plan, ⟨p0, (fun r_3_1 e_r_3_1 => have h := ok_let h r_3_1 e_r_3_1; (have hi_0 := (ok_guard h).1; have h := (ok_guard h).2; (loopI_start (fun m hm => ⟨(r_3_1.length : Int), r_3_1, ⟨hi_0, trivial⟩, hm⟩) (0 : Int) ([], (List.replicate (plan.length : Int).toNat (0 : Int))) rfl (Int.natCast_nonneg 0) trivial (ok_then h (fun v0 h hv0 => ⟨(Int.natCast_nonneg 0), ⟨(Int.natCast_nonneg _), ⟨(Int.le_refl _), ⟨rfl, ⟨rfl, (ok_ret h :)⟩⟩⟩⟩⟩) (fun _ h => h.elim)))))⟩⟩⟩⟩⟩
def c13 : Con := ⟨[.dat (Ty.sl TTable), .dat (Ty.sl TStep)], fun args hp K => args2 (fun a0 a1 => withD (Ty.sl TTable) a0 fun tables => withD (Ty.sl TStep) a1 fun plan => (Sm (Ty.sl TTable) tables) ∧ (Sm (Ty.sl TStep) plan) ∧ (∀ r : (List (TStep).D), r = (M.planTidy tables plan) → K (.clp 0 (r.length : Int)) [(0, .arr true TStep r)])) args hp, .bor⟩
def cons13 : Cons := [(41, c41), (42, c42)]
@[reducible] def C13 : Ctx := ⟨tab, fun t => memN t cmps, cons13, 11, [], 0, true⟩
theorem consOk13 : ConsOk P C13 := by
 refine consOk_cons (enter_ok (fn := f41) func41 (by kernel_rfl) rfl) con41_ok ?_
 refine consOk_cons (enter_ok (fn := f42) func42 (by kernel_rfl) rfl) con42_ok ?_
 exact consOk_nil
def ann13 : Nat → List Dir
 | 0 => [.keep [0, 1]]
 | 1 => [.keep [1, 8]]
 | 2 => [.clip 4, .keep [4]]
 | 3 => [.keep [4]]
 | _ => []
def L13 (tables : (List (TTable).D)) (plan : (List (TStep).D)) : Loops := fun id m st_ K => match id with
 | _ => False
theorem vc13 (tables : (List (TTable).D)) (plan : (List (TStep).D)) (K : AV → Hp → Prop) : awp C13 (L13 tables plan) ann13 (bodyOf f13) ⟨argEnv 0 [.data (Ty.sl TTable) tables, .data (Ty.sl TStep) plan], []⟩ (outK tab true f13.results.toList (hasBox []) (resK .raw K)) =
 ((Sm (Ty.sl TTable) tables) ∧ (Sm (Ty.sl TStep) plan) ∧ cond (!(M.planOk tables plan)) (K (.clp 0 (([] : List TStep.D).length : Int)) [(0, .arr true TStep ([] : List TStep.D))]) ((Sm (Ty.sl TStep) plan) ∧ (M.refsOk plan) ∧ (∀ r_3_1 : (List (TStep).D), r_3_1 = (M.tidy plan) → K (.clp 0 ((r_3_1.take (r_3_1.length : Int).toNat).length : Int)) [(0, .arr true TStep (r_3_1.take (r_3_1.length : Int).toNat))]))) := by kernel_rfl
theorem con13_ok : ConOk P 13 c13 := by
 refine con_okR (fn := f13) (code := bodyOf f13) (tab_ok tab_check cmp_check) consOk13 mixed func13 rfl rfl fun args hp K h0 => ?_
 obtain ⟨a0, a1, rfl, rfl, h1⟩ := args2_elim h0
 obtain ⟨tables, rfl, h2⟩ := withD_elim h1
 obtain ⟨plan, rfl, h3⟩ := withD_elim h2
 obtain ⟨h_tables, h_plan, hK⟩ := h3
 have h : ok (F.impl_PlanTidy tables plan) (fun r => K (.clp 0 (r.length : Int)) [(0, .arr true TStep r)]) := ok_of_eq (F.impl_PlanTidy_eq tables plan h_tables h_plan) (hK _ rfl)
 refine ⟨⟨show (2 : Nat) ≤ 11 by decide, show (2 : Nat) ≤ 1000000 by decide⟩, ann13, (L13 tables plan), .raw, (no_loops (by kernel_rfl)), ?_⟩
 ·rw [vc13 tables plan K]
  exact ⟨h_tables, ⟨h_plan, (ok_cond h (fun b_1 h => (ok_ret h :)) (fun b_1 h => ⟨h_plan, ⟨(ok_guard h).1, have h := (ok_guard h).2; (fun r_3_1 e_r_3_1 => have h := ok_let h r_3_1 e_r_3_1; (ok_ret h :))⟩⟩))⟩⟩
def c116 : Con := ⟨[.dat TValue, .dat TValue], fun args hp K => args2 (fun a0 a1 => withD TValue a0 fun x => withD TValue a1 fun y => (Sm TValue x) ∧ (Sm TValue y) ∧ (x = y) ∧ K (.data Ty.bool (true)) []) args hp, .plain⟩
def cons116 : Cons := []
@[reducible] def C116 : Ctx := ⟨tab, fun t => memN t cmps, cons116, 20, [], 0, false⟩
theorem consOk116 : ConsOk P C116 := by
 exact consOk_nil
def ann116 : Nat → List Dir
 | 0 => [.fixRow 2 TValue, .fixRow 3 TValue, .keep [2, 3]]
 | 1 => [.keep [2, 3, 9]]
 | 2 => [.keep [4]]
 | 3 => [.keep [2, 3, 14]]
 | 4 => [.keep [4]]
 | 5 => [.keep [19]]
 | 6 => [.keep [4]]
 | 7 => [.keep [4]]
 | _ => []
def L116 (x : (TValue).D) (y : (TValue).D) : Loops := fun id m st_ K => match id with
 | _ => False
theorem vc116 (x : (TValue).D) (y : (TValue).D) (K : AV → Hp → Prop) : awp C116 (L116 x y) ann116 (bodyOf f116) ⟨argEnv 0 [.data TValue x, .data TValue y], []⟩ (outK tab false f116.results.toList (hasBox []) (resK (.dat Ty.bool) K)) =
 (cond (!decide (x.1 = y.1)) (K (.data Ty.bool false) []) (cond (!decide (x.2.1 = y.2.1)) (K (.data Ty.bool false) []) (cond (!decide (x.2.2.1 = y.2.2.1)) (K (.data Ty.bool false) []) (K (.data Ty.bool true) [])))) := by kernel_rfl
theorem con116_ok : ConOk P 116 c116 := by
 refine con_okR (fn := f116) (code := bodyOf f116) (tab_ok tab_check cmp_check) consOk116 mixed func116 rfl rfl fun args hp K h0 => ?_
 obtain ⟨a0, a1, rfl, rfl, h1⟩ := args2_elim h0
 obtain ⟨x, rfl, h2⟩ := withD_elim h1
 obtain ⟨y, rfl, h3⟩ := withD_elim h2
 obtain ⟨h_x, h_y, p0, hK⟩ := h3
 have h : ok (F.laws_eqValue x y) (fun r => K (.data Ty.bool r) []) := ok_of_eq (F.laws_eqValue_eq x y h_x h_y p0) hK
 refine ⟨⟨show (2 : Nat) ≤ 20 by decide, show (2 : Nat) ≤ 1000000 by decide⟩, ann116, (L116 x y), (.dat Ty.bool), (no_loops (by kernel_rfl)), ?_⟩
 ·rw [vc116 x y K]
  exact (ok_cond h (fun b_1 h => (ok_ret h :)) (fun b_1 h => (ok_cond h (fun b_2 h => (ok_ret h :)) (fun b_2 h => (ok_cond h (fun b_3 h => (ok_ret h :)) (fun b_3 h => (ok_ret h :)))))))
def c124 : Con := ⟨[.dat TPart, .dat TPart], fun args hp K => args2 (fun a0 a1 => withD TPart a0 fun x => withD TPart a1 fun y => (Sm TPart x) ∧ (Sm TPart y) ∧ (x = y) ∧ K (.data Ty.bool (true)) []) args hp, .plain⟩
def cons124 : Cons := [(116, c116)]
@[reducible] def C124 : Ctx := ⟨tab, fun t => memN t cmps, cons124, 21, [], 0, false⟩
theorem consOk124 : ConsOk P C124 := by
 refine consOk_cons (enter_ok (fn := f116) func116 (by kernel_rfl) rfl) con116_ok ?_
 exact consOk_nil
def ann124 : Nat → List Dir
 | 0 => [.fixRow 2 TPart, .fixRow 3 TPart, .keep [2, 3]]
 | 1 => [.keep [2, 3, 9]]
 | 2 => [.keep [4]]
 | 3 => [.keep [2, 3, 14]]
 | 4 => [.keep [4]]
 | 5 => [.keep [20]]
 | 6 => [.keep [4]]
 | 7 => [.keep [4]]
 | _ => []
def L124 (x : (TPart).D) (y : (TPart).D) : Loops := fun id m st_ K => match id with
 | _ => False
theorem vc124 (x : (TPart).D) (y : (TPart).D) (K : AV → Hp → Prop) : awp C124 (L124 x y) ann124 (bodyOf f124) ⟨argEnv 0 [.data TPart x, .data TPart y], []⟩ (outK tab false f124.results.toList (hasBox []) (resK (.dat Ty.bool) K)) =
 (cond (!decide (x.1 = y.1)) (K (.data Ty.bool false) []) (cond (!decide (x.2.1 = y.2.1)) (K (.data Ty.bool false) []) ((Sm TValue x.2.2.1) ∧ (Sm TValue y.2.2.1) ∧ (x.2.2.1 = y.2.2.1) ∧ cond (!(true)) (K (.data Ty.bool false) []) (K (.data Ty.bool true) [])))) := by kernel_rfl
theorem con124_ok : ConOk P 124 c124 := by
 refine con_okR (fn := f124) (code := bodyOf f124) (tab_ok tab_check cmp_check) consOk124 mixed func124 rfl rfl fun args hp K h0 => ?_
 obtain ⟨a0, a1, rfl, rfl, h1⟩ := args2_elim h0
 obtain ⟨x, rfl, h2⟩ := withD_elim h1
 obtain ⟨y, rfl, h3⟩ := withD_elim h2
 obtain ⟨h_x, h_y, p0, hK⟩ := h3
 have h : ok (F.laws_eqPart x y) (fun r => K (.data Ty.bool r) []) := ok_of_eq (F.laws_eqPart_eq x y h_x h_y p0) hK
 refine ⟨⟨show (2 : Nat) ≤ 21 by decide, show (2 : Nat) ≤ 1000000 by decide⟩, ann124, (L124 x y), (.dat Ty.bool), (no_loops (by kernel_rfl)), ?_⟩
 ·rw [vc124 x y K]
  exact (ok_cond h (fun b_1 h => (ok_ret h :)) (fun b_1 h => (ok_cond h (fun b_2 h => (ok_ret h :)) (fun b_2 h => ⟨h_x.2.2.1, ⟨h_y.2.2.1, ⟨(ok_guard h).1, have h := (ok_guard h).2; (ok_cond h (fun b_4 h => (ok_ret h :)) (fun b_4 h => (ok_ret h :)))⟩⟩⟩))))
def c91 : Con := ⟨[.dat (Ty.sl TPart), .dat (Ty.sl TPart)], fun args hp K => args2 (fun a0 a1 => withD (Ty.sl TPart) a0 fun x => withD (Ty.sl TPart) a1 fun y => (Sm (Ty.sl TPart) x) ∧ (Sm (Ty.sl TPart) y) ∧ (x = y) ∧ K (.data Ty.bool (true)) []) args hp, .bor⟩
def cons91 : Cons := [(124, c124)]
@[reducible] def C91 : Ctx := ⟨tab, fun t => memN t cmps, cons91, 27, [], 0, false⟩
theorem consOk91 : ConsOk P C91 := by
 refine consOk_cons (enter_ok (fn := f124) func124 (by kernel_rfl) rfl) con124_ok ?_
 exact consOk_nil
def ann91 : Nat → List Dir
 | 0 => [.keep [0, 1]]
 | 1 => [.keep [0, 1, 10]]
 | 2 => [.keep [4]]
 | 3 => [.keep [0, 1, 5]]
 | 4 => [.keep [0, 1, 5, 14]]
 | 5 => [.keep [0, 1, 5]]
 | 6 => [.keep [0, 1, 5, 26]]
 | 7 => [.keep [4]]
 | 8 => [.keep [4]]
 | 100000 => [.keep []]
 | _ => []
@[reducible] def LP91_0 (x : (List (TPart).D)) (y : (List (TPart).D)) (m : Nat) (st_ : St) (K : X → St → Prop) : Prop := (True) ∧ LoopI (fun (i0 : Int) (v0 : Unit) => (⟨[(0, .data (Ty.sl TPart) x), (1, .data (Ty.sl TPart) y), (5, .data TInt i0)], []⟩ : St)) (0 : Int) (x.length : Int) (F.laws_eqPartS_l0 x y) (fun v0 : Unit => True) (outD (fun v0 : Unit => True → K (.exit 0) (⟨[], []⟩ : St)) (fun q0 : Unit => K .ret (⟨[(4, .data Ty.bool false)], []⟩ : St))) m st_
def L91 (x : (List (TPart).D)) (y : (List (TPart).D)) : Loops := fun id m st_ K => match id with
 | 0 => LP91_0 x y m st_ K
 | _ => False
theorem vc91 (x : (List (TPart).D)) (y : (List (TPart).D)) (K : AV → Hp → Prop) : awp C91 (L91 x y) ann91 (bodyOf f91) ⟨argEnv 0 [.data (Ty.sl TPart) x, .data (Ty.sl TPart) y], []⟩ (outK tab false f91.results.toList (hasBox []) (resK (.dat Ty.bool) K)) =
 (cond (!decide ((x.length : Int) = (y.length : Int))) (K (.data Ty.bool false) []) ((∃ m_, (True) ∧ LoopI (fun (i0 : Int) (v0 : Unit) => (⟨[(0, .data (Ty.sl TPart) x), (1, .data (Ty.sl TPart) y), (5, .data TInt i0)], []⟩ : St)) (0 : Int) (x.length : Int) (F.laws_eqPartS_l0 x y) (fun v0 : Unit => True) (outD (fun v0 : Unit => True → K (.data Ty.bool true) []) (fun q0 : Unit => K (.data Ty.bool false) [])) m_ (⟨[(0, .data (Ty.sl TPart) x), (1, .data (Ty.sl TPart) y), (5, .data TInt (0 : Int))], []⟩ : St)))) := by kernel_rfl
theorem lvc91_0 (x : (List (TPart).D)) (y : (List (TPart).D))  (i0 : Int) (v0 : Unit) (m : Nat) (K : X → St → Prop) : awp C91 (L91 x y) ann91 (loopAt (bodyOf f91) 0) (⟨[(0, .data (Ty.sl TPart) x), (1, .data (Ty.sl TPart) y), (5, .data TInt i0)], []⟩ : St) (thenW (fun s' => ∃ m', m' < m ∧ (L91 x y) 0 m' s' K) (exitN 0 (ann91 (behind 0)) K)) =
 (cond (decide (i0 < (x.length : Int))) ((0 ≤ i0) ∧ (i0 < (x.length : Int)) ∧ (0 ≤ i0) ∧ (i0 < (y.length : Int)) ∧ (Sm TPart (nth (t := TPart) x i0)) ∧ (Sm TPart (nth (t := TPart) y i0)) ∧ ((nth (t := TPart) x i0) = (nth (t := TPart) y i0)) ∧ cond (!(true)) (K .ret (⟨[(4, .data Ty.bool false)], []⟩ : St)) ((∃ m_, m_ < m ∧ (L91 x y) 0 m_ (⟨[(0, .data (Ty.sl TPart) x), (1, .data (Ty.sl TPart) y), (5, .data TInt (wrap64 (i0 + (1 : Int))))], []⟩ : St) K))) (K (.exit 0) (⟨[], []⟩ : St))) := by kernel_rfl
theorem con91_ok : ConOk P 91 c91 := by
 refine con_okR (fn := f91) (code := bodyOf f91) (tab_ok tab_check cmp_check) consOk91 mixed func91 rfl rfl fun args hp K h0 => ?_
 obtain ⟨a0, a1, rfl, rfl, h1⟩ := args2_elim h0
 obtain ⟨x, rfl, h2⟩ := withD_elim h1
 obtain ⟨y, rfl, h3⟩ := withD_elim h2
 obtain ⟨h_x, h_y, p0, hK⟩ := h3
 have h : ok (F.laws_eqPartS x y) (fun r => K (.data Ty.bool r) []) := ok_of_eq (F.laws_eqPartS_eq x y h_x h_y p0) hK
 refine ⟨⟨show (2 : Nat) ≤ 27 by decide, show (2 : Nat) ≤ 1000000 by decide⟩, ann91, (L91 x y), (.dat Ty.bool), (loopsN1 (i0 := 0) (by kernel_rfl) ?_), ?_⟩
 ·clear h
  intro m_ s_ K_ h
  obtain ⟨hc0, i0, v0, rfl, hl0, rfl, hv0, h⟩ := (show LP91_0 x y m_ s_ K_ from h)
  rw [lvc91_0 x y i0 v0 _ K_]
  exact (loopI_step h (fun ht0 h => ⟨hl0, ⟨ht0, ⟨hl0, ⟨(ok_guard h).1, have h := (ok_guard h).2; ⟨(sm_nth h_x i0), ⟨(sm_nth h_y i0), ⟨(ok_guard h).1, have h := (ok_guard h).2; (ok_cond h (fun b_16 h => (ok_ret h :)) (fun b_16 h => (loopI_next (fun m hm => (show LP91_0 x y m _ _ from ⟨hc0, hm⟩)) () rfl hl0 low0 ht0 (sm_len h_x) trivial (ok_ret h :))))⟩⟩⟩⟩⟩⟩⟩) (fun h => (h trivial)))
 ·rw [vc91 x y K]
  exact (ok_cond h (fun b_1 h => (ok_ret h :)) (fun b_1 h => (loopI_start (fun m hm => ⟨trivial, hm⟩) (0 : Int) () rfl (Int.natCast_nonneg 0) trivial (ok_then h (fun v0 h hv0 => (ok_ret h :)) (fun q0 h => (ok_ret h :))))))
def c92 : Con := ⟨[.dat (Ty.sl TInt), .dat (Ty.sl TInt)], fun args hp K => args2 (fun a0 a1 => withD (Ty.sl TInt) a0 fun x => withD (Ty.sl TInt) a1 fun y => (Sm (Ty.sl TInt) x) ∧ (Sm (Ty.sl TInt) y) ∧ (x = y) ∧ K (.data Ty.bool (true)) []) args hp, .bor⟩
def cons92 : Cons := []
@[reducible] def C92 : Ctx := ⟨tab, fun t => memN t cmps, cons92, 26, [], 0, false⟩
theorem consOk92 : ConsOk P C92 := by
 exact consOk_nil
def ann92 : Nat → List Dir
 | 0 => [.keep [0, 1]]
 | 1 => [.keep [0, 1, 10]]
 | 2 => [.keep [4]]
 | 3 => [.keep [0, 1, 5]]
 | 4 => [.keep [0, 1, 5, 14]]
 | 5 => [.keep [0, 1, 5]]
 | 6 => [.keep [0, 1, 5, 25]]
 | 7 => [.keep [4]]
 | 8 => [.keep [4]]
 | 100000 => [.keep []]
 | _ => []
@[reducible] def LP92_0 (x : (List Int)) (y : (List Int)) (m : Nat) (st_ : St) (K : X → St → Prop) : Prop := (True) ∧ LoopI (fun (i0 : Int) (v0 : Unit) => (⟨[(0, .data (Ty.sl TInt) x), (1, .data (Ty.sl TInt) y), (5, .data TInt i0)], []⟩ : St)) (0 : Int) (x.length : Int) (F.laws_eqIntS_l0 x y) (fun v0 : Unit => True) (outD (fun v0 : Unit => True → K (.exit 0) (⟨[], []⟩ : St)) (fun q0 : Unit => K .ret (⟨[(4, .data Ty.bool false)], []⟩ : St))) m st_
def L92 (x : (List Int)) (y : (List Int)) : Loops := fun id m st_ K => match id with
 | 0 => LP92_0 x y m st_ K
 | _ => False
theorem vc92 (x : (List Int)) (y : (List Int)) (K : AV → Hp → Prop) : awp C92 (L92 x y) ann92 (bodyOf f92) ⟨argEnv 0 [.data (Ty.sl TInt) x, .data (Ty.sl TInt) y], []⟩ (outK tab false f92.results.toList (hasBox []) (resK (.dat Ty.bool) K)) =
 (cond (!decide ((x.length : Int) = (y.length : Int))) (K (.data Ty.bool false) []) ((∃ m_, (True) ∧ LoopI (fun (i0 : Int) (v0 : Unit) => (⟨[(0, .data (Ty.sl TInt) x), (1, .data (Ty.sl TInt) y), (5, .data TInt i0)], []⟩ : St)) (0 : Int) (x.length : Int) (F.laws_eqIntS_l0 x y) (fun v0 : Unit => True) (outD (fun v0 : Unit => True → K (.data Ty.bool true) []) (fun q0 : Unit => K (.data Ty.bool false) [])) m_ (⟨[(0, .data (Ty.sl TInt) x), (1, .data (Ty.sl TInt) y), (5, .data TInt (0 : Int))], []⟩ : St)))) := by kernel_rfl
theorem lvc92_0 (x : (List Int)) (y : (List Int))  (i0 : Int) (v0 : Unit) (m : Nat) (K : X → St → Prop) : awp C92 (L92 x y) ann92 (loopAt (bodyOf f92) 0) (⟨[(0, .data (Ty.sl TInt) x), (1, .data (Ty.sl TInt) y), (5, .data TInt i0)], []⟩ : St) (thenW (fun s' => ∃ m', m' < m ∧ (L92 x y) 0 m' s' K) (exitN 0 (ann92 (behind 0)) K)) =
 (cond (decide (i0 < (x.length : Int))) ((0 ≤ i0) ∧ (i0 < (x.length : Int)) ∧ (0 ≤ i0) ∧ (i0 < (y.length : Int)) ∧ cond (!decide ((nth (t := TInt) x i0) = (nth (t := TInt) y i0))) (K .ret (⟨[(4, .data Ty.bool false)], []⟩ : St)) ((∃ m_, m_ < m ∧ (L92 x y) 0 m_ (⟨[(0, .data (Ty.sl TInt) x), (1, .data (Ty.sl TInt) y), (5, .data TInt (wrap64 (i0 + (1 : Int))))], []⟩ : St) K))) (K (.exit 0) (⟨[], []⟩ : St))) := by kernel_rfl
theorem con92_ok : ConOk P 92 c92 := by
 refine con_okR (fn := f92) (code := bodyOf f92) (tab_ok tab_check cmp_check) consOk92 mixed func92 rfl rfl fun args hp K h0 => ?_
 obtain ⟨a0, a1, rfl, rfl, h1⟩ := args2_elim h0
 obtain ⟨x, rfl, h2⟩ := withD_elim h1
 obtain ⟨y, rfl, h3⟩ := withD_elim h2
 obtain ⟨h_x, h_y, p0, hK⟩ := h3
 have h : ok (F.laws_eqIntS x y) (fun r => K (.data Ty.bool r) []) := ok_of_eq (F.laws_eqIntS_eq x y h_x h_y p0) hK
 refine ⟨⟨show (2 : Nat) ≤ 26 by decide, show (2 : Nat) ≤ 1000000 by decide⟩, ann92, (L92 x y), (.dat Ty.bool), (loopsN1 (i0 := 0) (by kernel_rfl) ?_), ?_⟩
 ·clear h
  intro m_ s_ K_ h
  obtain ⟨hc0, i0, v0, rfl, hl0, rfl, hv0, h⟩ := (show LP92_0 x y m_ s_ K_ from h)
  rw [lvc92_0 x y i0 v0 _ K_]
  exact (loopI_step h (fun ht0 h => ⟨hl0, ⟨ht0, ⟨hl0, ⟨(ok_guard h).1, have h := (ok_guard h).2; (ok_cond h (fun b_13 h => (ok_ret h :)) (fun b_13 h => (loopI_next (fun m hm => (show LP92_0 x y m _ _ from ⟨hc0, hm⟩)) () rfl hl0 low0 ht0 (sm_len h_x) trivial (ok_ret h :))))⟩⟩⟩⟩) (fun h => (h trivial)))
 ·rw [vc92 x y K]
  exact (ok_cond h (fun b_1 h => (ok_ret h :)) (fun b_1 h => (loopI_start (fun m hm => ⟨trivial, hm⟩) (0 : Int) () rfl (Int.natCast_nonneg 0) trivial (ok_then h (fun v0 h hv0 => (ok_ret h :)) (fun q0 h => (ok_ret h :))))))
def c43 : Con := ⟨[.dat TStep, .dat TStep], fun args hp K => args2 (fun a0 a1 => withD TStep a0 fun x => withD TStep a1 fun y => (Sm TStep x) ∧ (Sm TStep y) ∧ (x = y) ∧ K (.data Ty.bool (true)) []) args hp, .plain⟩
def cons43 : Cons := [(91, c91), (92, c92)]
@[reducible] def C43 : Ctx := ⟨tab, fun t => memN t cmps, cons43, 37, [], 0, false⟩
theorem consOk43 : ConsOk P C43 := by
 refine consOk_cons (enter_ok (fn := f91) func91 (by kernel_rfl) rfl) con91_ok ?_
 refine consOk_cons (enter_ok (fn := f92) func92 (by kernel_rfl) rfl) con92_ok ?_
 exact consOk_nil
def ann43 : Nat → List Dir
 | 0 => [.fixRow 2 TStep, .fixRow 3 TStep, .keep [2, 3]]
 | 1 => [.keep [2, 3, 9]]
 | 2 => [.keep [4]]
 | 3 => [.keep [2, 3, 14]]
 | 4 => [.keep [4]]
 | 5 => [.keep [2, 3, 19]]
 | 6 => [.keep [4]]
 | 7 => [.keep [2, 3, 24]]
 | 8 => [.keep [4]]
 | 9 => [.keep [2, 3, 30]]
 | 10 => [.keep [4]]
 | 11 => [.keep [36]]
 | 12 => [.keep [4]]
 | 13 => [.keep [4]]
 | _ => []
def L43 (x : (TStep).D) (y : (TStep).D) : Loops := fun id m st_ K => match id with
 | _ => False
theorem vc43 (x : (TStep).D) (y : (TStep).D) (K : AV → Hp → Prop) : awp C43 (L43 x y) ann43 (bodyOf f43) ⟨argEnv 0 [.data TStep x, .data TStep y], []⟩ (outK tab false f43.results.toList (hasBox []) (resK (.dat Ty.bool) K)) =
 (cond (!decide (x.1 = y.1)) (K (.data Ty.bool false) []) (cond (!decide (x.2.1 = y.2.1)) (K (.data Ty.bool false) []) (cond (!decide (x.2.2.1 = y.2.2.1)) (K (.data Ty.bool false) []) (cond (!decide (x.2.2.2.1 = y.2.2.2.1)) (K (.data Ty.bool false) []) ((Sm (Ty.sl TPart) x.2.2.2.2.1) ∧ (Sm (Ty.sl TPart) y.2.2.2.2.1) ∧ (x.2.2.2.2.1 = y.2.2.2.2.1) ∧ cond (!(true)) (K (.data Ty.bool false) []) ((Sm (Ty.sl TInt) x.2.2.2.2.2.1) ∧ (Sm (Ty.sl TInt) y.2.2.2.2.2.1) ∧ (x.2.2.2.2.2.1 = y.2.2.2.2.2.1) ∧ cond (!(true)) (K (.data Ty.bool false) []) (K (.data Ty.bool true) []))))))) := by kernel_rfl
theorem con43_ok : ConOk P 43 c43 := by
 refine con_okR (fn := f43) (code := bodyOf f43) (tab_ok tab_check cmp_check) consOk43 mixed func43 rfl rfl fun args hp K h0 => ?_
 obtain ⟨a0, a1, rfl, rfl, h1⟩ := args2_elim h0
 obtain ⟨x, rfl, h2⟩ := withD_elim h1
 obtain ⟨y, rfl, h3⟩ := withD_elim h2
 obtain ⟨h_x, h_y, p0, hK⟩ := h3
 have h : ok (F.laws_eqStep x y) (fun r => K (.data Ty.bool r) []) := ok_of_eq (F.laws_eqStep_eq x y h_x h_y p0) hK
 refine ⟨⟨show (2 : Nat) ≤ 37 by decide, show (2 : Nat) ≤ 1000000 by decide⟩, ann43, (L43 x y), (.dat Ty.bool), (no_loops (by kernel_rfl)), ?_⟩
 ·rw [vc43 x y K]
  exact (ok_cond h (fun b_1 h => (ok_ret h :)) (fun b_1 h => (ok_cond h (fun b_2 h => (ok_ret h :)) (fun b_2 h => (ok_cond h (fun b_3 h => (ok_ret h :)) (fun b_3 h => (ok_cond h (fun b_4 h => (ok_ret h :)) (fun b_4 h => ⟨h_x.2.2.2.2.1, ⟨h_y.2.2.2.2.1, ⟨(ok_guard h).1, have h := (ok_guard h).2; (ok_cond h (fun b_6 h => (ok_ret h :)) (fun b_6 h => ⟨h_x.2.2.2.2.2.1, ⟨h_y.2.2.2.2.2.1, ⟨(ok_guard h).1, have h := (ok_guard h).2; (cond_f (unf (bnf b_6)) (ok_ret h :))⟩⟩⟩))⟩⟩⟩))))))))
def c14 : Con := ⟨[.dat (Ty.sl TStep), .dat (Ty.sl TStep)], fun args hp K => args2 (fun a0 a1 => withD (Ty.sl TStep) a0 fun x => withD (Ty.sl TStep) a1 fun y => (Sm (Ty.sl TStep) x) ∧ (Sm (Ty.sl TStep) y) ∧ (x = y) ∧ K (.data Ty.bool (true)) []) args hp, .bor⟩
def cons14 : Cons := [(43, c43)]
@[reducible] def C14 : Ctx := ⟨tab, fun t => memN t cmps, cons14, 27, [], 0, false⟩
theorem consOk14 : ConsOk P C14 := by
 refine consOk_cons (enter_ok (fn := f43) func43 (by kernel_rfl) rfl) con43_ok ?_
 exact consOk_nil
def ann14 : Nat → List Dir
 | 0 => [.keep [0, 1]]
 | 1 => [.keep [0, 1, 10]]
 | 2 => [.keep [4]]
 | 3 => [.keep [0, 1, 5]]
 | 4 => [.keep [0, 1, 5, 14]]
 | 5 => [.keep [0, 1, 5]]
 | 6 => [.keep [0, 1, 5, 26]]
 | 7 => [.keep [4]]
 | 8 => [.keep [4]]
 | 100000 => [.keep []]
 | _ => []
@[reducible] def LP14_0 (x : (List (TStep).D)) (y : (List (TStep).D)) (m : Nat) (st_ : St) (K : X → St → Prop) : Prop := (True) ∧ LoopI (fun (i0 : Int) (v0 : Unit) => (⟨[(0, .data (Ty.sl TStep) x), (1, .data (Ty.sl TStep) y), (5, .data TInt i0)], []⟩ : St)) (0 : Int) (x.length : Int) (F.laws_eqStepS_l0 x y) (fun v0 : Unit => True) (outD (fun v0 : Unit => True → K (.exit 0) (⟨[], []⟩ : St)) (fun q0 : Unit => K .ret (⟨[(4, .data Ty.bool false)], []⟩ : St))) m st_
def L14 (x : (List (TStep).D)) (y : (List (TStep).D)) : Loops := fun id m st_ K => match id with
 | 0 => LP14_0 x y m st_ K
 | _ => False
theorem vc14 (x : (List (TStep).D)) (y : (List (TStep).D)) (K : AV → Hp → Prop) : awp C14 (L14 x y) ann14 (bodyOf f14) ⟨argEnv 0 [.data (Ty.sl TStep) x, .data (Ty.sl TStep) y], []⟩ (outK tab false f14.results.toList (hasBox []) (resK (.dat Ty.bool) K)) =
 (cond (!decide ((x.length : Int) = (y.length : Int))) (K (.data Ty.bool false) []) ((∃ m_, (True) ∧ LoopI (fun (i0 : Int) (v0 : Unit) => (⟨[(0, .data (Ty.sl TStep) x), (1, .data (Ty.sl TStep) y), (5, .data TInt i0)], []⟩ : St)) (0 : Int) (x.length : Int) (F.laws_eqStepS_l0 x y) (fun v0 : Unit => True) (outD (fun v0 : Unit => True → K (.data Ty.bool true) []) (fun q0 : Unit => K (.data Ty.bool false) [])) m_ (⟨[(0, .data (Ty.sl TStep) x), (1, .data (Ty.sl TStep) y), (5, .data TInt (0 : Int))], []⟩ : St)))) := by kernel_rfl
theorem lvc14_0 (x : (List (TStep).D)) (y : (List (TStep).D))  (i0 : Int) (v0 : Unit) (m : Nat) (K : X → St → Prop) : awp C14 (L14 x y) ann14 (loopAt (bodyOf f14) 0) (⟨[(0, .data (Ty.sl TStep) x), (1, .data (Ty.sl TStep) y), (5, .data TInt i0)], []⟩ : St) (thenW (fun s' => ∃ m', m' < m ∧ (L14 x y) 0 m' s' K) (exitN 0 (ann14 (behind 0)) K)) =
 (cond (decide (i0 < (x.length : Int))) ((0 ≤ i0) ∧ (i0 < (x.length : Int)) ∧ (0 ≤ i0) ∧ (i0 < (y.length : Int)) ∧ (Sm TStep (nth (t := TStep) x i0)) ∧ (Sm TStep (nth (t := TStep) y i0)) ∧ ((nth (t := TStep) x i0) = (nth (t := TStep) y i0)) ∧ cond (!(true)) (K .ret (⟨[(4, .data Ty.bool false)], []⟩ : St)) ((∃ m_, m_ < m ∧ (L14 x y) 0 m_ (⟨[(0, .data (Ty.sl TStep) x), (1, .data (Ty.sl TStep) y), (5, .data TInt (wrap64 (i0 + (1 : Int))))], []⟩ : St) K))) (K (.exit 0) (⟨[], []⟩ : St))) := by kernel_rfl
theorem con14_ok : ConOk P 14 c14 := by
 refine con_okR (fn := f14) (code := bodyOf f14) (tab_ok tab_check cmp_check) consOk14 mixed func14 rfl rfl fun args hp K h0 => ?_
 obtain ⟨a0, a1, rfl, rfl, h1⟩ := args2_elim h0
 obtain ⟨x, rfl, h2⟩ := withD_elim h1
 obtain ⟨y, rfl, h3⟩ := withD_elim h2
 obtain ⟨h_x, h_y, p0, hK⟩ := h3
 have h : ok (F.laws_eqStepS x y) (fun r => K (.data Ty.bool r) []) := ok_of_eq (F.laws_eqStepS_eq x y h_x h_y p0) hK
 refine ⟨⟨show (2 : Nat) ≤ 27 by decide, show (2 : Nat) ≤ 1000000 by decide⟩, ann14, (L14 x y), (.dat Ty.bool), (loopsN1 (i0 := 0) (by kernel_rfl) ?_), ?_⟩
 ·clear h
  intro m_ s_ K_ h
  obtain ⟨hc0, i0, v0, rfl, hl0, rfl, hv0, h⟩ := (show LP14_0 x y m_ s_ K_ from h)
  rw [lvc14_0 x y i0 v0 _ K_]
  exact (loopI_step h (fun ht0 h => ⟨hl0, ⟨ht0, ⟨hl0, ⟨(ok_guard h).1, have h := (ok_guard h).2; ⟨(sm_nth h_x i0), ⟨(sm_nth h_y i0), ⟨(ok_guard h).1, have h := (ok_guard h).2; (ok_cond h (fun b_16 h => (ok_ret h :)) (fun b_16 h => (loopI_next (fun m hm => (show LP14_0 x y m _ _ from ⟨hc0, hm⟩)) () rfl hl0 low0 ht0 (sm_len h_x) trivial (ok_ret h :))))⟩⟩⟩⟩⟩⟩⟩) (fun h => (h trivial)))
 ·rw [vc14 x y K]
  exact (ok_cond h (fun b_1 h => (ok_ret h :)) (fun b_1 h => (loopI_start (fun m hm => ⟨trivial, hm⟩) (0 : Int) () rfl (Int.natCast_nonneg 0) trivial (ok_then h (fun v0 h hv0 => (ok_ret h :)) (fun q0 h => (ok_ret h :))))))
def c75 : Con := ⟨[.dat (Ty.sl TValue), .dat (Ty.sl TValue)], fun args hp K => args2 (fun a0 a1 => withD (Ty.sl TValue) a0 fun x => withD (Ty.sl TValue) a1 fun y => (Sm (Ty.sl TValue) x) ∧ (Sm (Ty.sl TValue) y) ∧ (x = y) ∧ K (.data Ty.bool (true)) []) args hp, .bor⟩
def cons75 : Cons := [(116, c116)]
@[reducible] def C75 : Ctx := ⟨tab, fun t => memN t cmps, cons75, 27, [], 0, false⟩
theorem consOk75 : ConsOk P C75 := by
 refine consOk_cons (enter_ok (fn := f116) func116 (by kernel_rfl) rfl) con116_ok ?_
 exact consOk_nil
def ann75 : Nat → List Dir
 | 0 => [.keep [0, 1]]
 | 1 => [.keep [0, 1, 10]]
 | 2 => [.keep [4]]
 | 3 => [.keep [0, 1, 5]]
 | 4 => [.keep [0, 1, 5, 14]]
 | 5 => [.keep [0, 1, 5]]
 | 6 => [.keep [0, 1, 5, 26]]
 | 7 => [.keep [4]]
 | 8 => [.keep [4]]
 | 100000 => [.keep []]
 | _ => []
@[reducible] def LP75_0 (x : (List (TValue).D)) (y : (List (TValue).D)) (m : Nat) (st_ : St) (K : X → St → Prop) : Prop := (True) ∧ LoopI (fun (i0 : Int) (v0 : Unit) => (⟨[(0, .data (Ty.sl TValue) x), (1, .data (Ty.sl TValue) y), (5, .data TInt i0)], []⟩ : St)) (0 : Int) (x.length : Int) (F.laws_eqValueS_l0 x y) (fun v0 : Unit => True) (outD (fun v0 : Unit => True → K (.exit 0) (⟨[], []⟩ : St)) (fun q0 : Unit => K .ret (⟨[(4, .data Ty.bool false)], []⟩ : St))) m st_
def L75 (x : (List (TValue).D)) (y : (List (TValue).D)) : Loops := fun id m st_ K => match id with
 | 0 => LP75_0 x y m st_ K
 | _ => False
theorem vc75 (x : (List (TValue).D)) (y : (List (TValue).D)) (K : AV → Hp → Prop) : awp C75 (L75 x y) ann75 (bodyOf f75) ⟨argEnv 0 [.data (Ty.sl TValue) x, .data (Ty.sl TValue) y], []⟩ (outK tab false f75.results.toList (hasBox []) (resK (.dat Ty.bool) K)) =
 (cond (!decide ((x.length : Int) = (y.length : Int))) (K (.data Ty.bool false) []) ((∃ m_, (True) ∧ LoopI (fun (i0 : Int) (v0 : Unit) => (⟨[(0, .data (Ty.sl TValue) x), (1, .data (Ty.sl TValue) y), (5, .data TInt i0)], []⟩ : St)) (0 : Int) (x.length : Int) (F.laws_eqValueS_l0 x y) (fun v0 : Unit => True) (outD (fun v0 : Unit => True → K (.data Ty.bool true) []) (fun q0 : Unit => K (.data Ty.bool false) [])) m_ (⟨[(0, .data (Ty.sl TValue) x), (1, .data (Ty.sl TValue) y), (5, .data TInt (0 : Int))], []⟩ : St)))) := by kernel_rfl
theorem lvc75_0 (x : (List (TValue).D)) (y : (List (TValue).D))  (i0 : Int) (v0 : Unit) (m : Nat) (K : X → St → Prop) : awp C75 (L75 x y) ann75 (loopAt (bodyOf f75) 0) (⟨[(0, .data (Ty.sl TValue) x), (1, .data (Ty.sl TValue) y), (5, .data TInt i0)], []⟩ : St) (thenW (fun s' => ∃ m', m' < m ∧ (L75 x y) 0 m' s' K) (exitN 0 (ann75 (behind 0)) K)) =
 (cond (decide (i0 < (x.length : Int))) ((0 ≤ i0) ∧ (i0 < (x.length : Int)) ∧ (0 ≤ i0) ∧ (i0 < (y.length : Int)) ∧ (Sm TValue (nth (t := TValue) x i0)) ∧ (Sm TValue (nth (t := TValue) y i0)) ∧ ((nth (t := TValue) x i0) = (nth (t := TValue) y i0)) ∧ cond (!(true)) (K .ret (⟨[(4, .data Ty.bool false)], []⟩ : St)) ((∃ m_, m_ < m ∧ (L75 x y) 0 m_ (⟨[(0, .data (Ty.sl TValue) x), (1, .data (Ty.sl TValue) y), (5, .data TInt (wrap64 (i0 + (1 : Int))))], []⟩ : St) K))) (K (.exit 0) (⟨[], []⟩ : St))) := by kernel_rfl
theorem con75_ok : ConOk P 75 c75 := by
 refine con_okR (fn := f75) (code := bodyOf f75) (tab_ok tab_check cmp_check) consOk75 mixed func75 rfl rfl fun args hp K h0 => ?_
 obtain ⟨a0, a1, rfl, rfl, h1⟩ := args2_elim h0
 obtain ⟨x, rfl, h2⟩ := withD_elim h1
 obtain ⟨y, rfl, h3⟩ := withD_elim h2
 obtain ⟨h_x, h_y, p0, hK⟩ := h3
 have h : ok (F.laws_eqValueS x y) (fun r => K (.data Ty.bool r) []) := ok_of_eq (F.laws_eqValueS_eq x y h_x h_y p0) hK
 refine ⟨⟨show (2 : Nat) ≤ 27 by decide, show (2 : Nat) ≤ 1000000 by decide⟩, ann75, (L75 x y), (.dat Ty.bool), (loopsN1 (i0 := 0) (by kernel_rfl) ?_), ?_⟩
 ·clear h
  intro m_ s_ K_ h
  obtain ⟨hc0, i0, v0, rfl, hl0, rfl, hv0, h⟩ := (show LP75_0 x y m_ s_ K_ from h)
  rw [lvc75_0 x y i0 v0 _ K_]
  exact (loopI_step h (fun ht0 h => ⟨hl0, ⟨ht0, ⟨hl0, ⟨(ok_guard h).1, have h := (ok_guard h).2; ⟨(sm_nth h_x i0), ⟨(sm_nth h_y i0), ⟨(ok_guard h).1, have h := (ok_guard h).2; (ok_cond h (fun b_16 h => (ok_ret h :)) (fun b_16 h => (loopI_next (fun m hm => (show LP75_0 x y m _ _ from ⟨hc0, hm⟩)) () rfl hl0 low0 ht0 (sm_len h_x) trivial (ok_ret h :))))⟩⟩⟩⟩⟩⟩⟩) (fun h => (h trivial)))
 ·rw [vc75 x y K]
  exact (ok_cond h (fun b_1 h => (ok_ret h :)) (fun b_1 h => (loopI_start (fun m hm => ⟨trivial, hm⟩) (0 : Int) () rfl (Int.natCast_nonneg 0) trivial (ok_then h (fun v0 h hv0 => (ok_ret h :)) (fun q0 h => (ok_ret h :))))))
def c32 : Con := ⟨[.dat (Ty.sl (Ty.sl TValue)), .dat (Ty.sl (Ty.sl TValue))], fun args hp K => args2 (fun a0 a1 => withD (Ty.sl (Ty.sl TValue)) a0 fun x => withD (Ty.sl (Ty.sl TValue)) a1 fun y => (Sm (Ty.sl (Ty.sl TValue)) x) ∧ (Sm (Ty.sl (Ty.sl TValue)) y) ∧ (x = y) ∧ K (.data Ty.bool (true)) []) args hp, .bor⟩
def cons32 : Cons := [(75, c75)]
@[reducible] def C32 : Ctx := ⟨tab, fun t => memN t cmps, cons32, 27, [], 0, false⟩
theorem consOk32 : ConsOk P C32 := by
 refine consOk_cons (enter_ok (fn := f75) func75 (by kernel_rfl) rfl) con75_ok ?_
 exact consOk_nil
def ann32 : Nat → List Dir
 | 0 => [.keep [0, 1]]
 | 1 => [.keep [0, 1, 10]]
 | 2 => [.keep [4]]
 | 3 => [.keep [0, 1, 5]]
 | 4 => [.keep [0, 1, 5, 14]]
 | 5 => [.keep [0, 1, 5]]
 | 6 => [.keep [0, 1, 5, 26]]
 | 7 => [.keep [4]]
 | 8 => [.keep [4]]
 | 100000 => [.keep []]
 | _ => []
@[reducible] def LP32_0 (x : (List (List (TValue).D))) (y : (List (List (TValue).D))) (m : Nat) (st_ : St) (K : X → St → Prop) : Prop := (True) ∧ LoopI (fun (i0 : Int) (v0 : Unit) => (⟨[(0, .data (Ty.sl (Ty.sl TValue)) x), (1, .data (Ty.sl (Ty.sl TValue)) y), (5, .data TInt i0)], []⟩ : St)) (0 : Int) (x.length : Int) (F.laws_eqValueSS_l0 x y) (fun v0 : Unit => True) (outD (fun v0 : Unit => True → K (.exit 0) (⟨[], []⟩ : St)) (fun q0 : Unit => K .ret (⟨[(4, .data Ty.bool false)], []⟩ : St))) m st_
def L32 (x : (List (List (TValue).D))) (y : (List (List (TValue).D))) : Loops := fun id m st_ K => match id with
 | 0 => LP32_0 x y m st_ K
 | _ => False
theorem vc32 (x : (List (List (TValue).D))) (y : (List (List (TValue).D))) (K : AV → Hp → Prop) : awp C32 (L32 x y) ann32 (bodyOf f32) ⟨argEnv 0 [.data (Ty.sl (Ty.sl TValue)) x, .data (Ty.sl (Ty.sl TValue)) y], []⟩ (outK tab false f32.results.toList (hasBox []) (resK (.dat Ty.bool) K)) =
 (cond (!decide ((x.length : Int) = (y.length : Int))) (K (.data Ty.bool false) []) ((∃ m_, (True) ∧ LoopI (fun (i0 : Int) (v0 : Unit) => (⟨[(0, .data (Ty.sl (Ty.sl TValue)) x), (1, .data (Ty.sl (Ty.sl TValue)) y), (5, .data TInt i0)], []⟩ : St)) (0 : Int) (x.length : Int) (F.laws_eqValueSS_l0 x y) (fun v0 : Unit => True) (outD (fun v0 : Unit => True → K (.data Ty.bool true) []) (fun q0 : Unit => K (.data Ty.bool false) [])) m_ (⟨[(0, .data (Ty.sl (Ty.sl TValue)) x), (1, .data (Ty.sl (Ty.sl TValue)) y), (5, .data TInt (0 : Int))], []⟩ : St)))) := by kernel_rfl
theorem lvc32_0 (x : (List (List (TValue).D))) (y : (List (List (TValue).D)))  (i0 : Int) (v0 : Unit) (m : Nat) (K : X → St → Prop) : awp C32 (L32 x y) ann32 (loopAt (bodyOf f32) 0) (⟨[(0, .data (Ty.sl (Ty.sl TValue)) x), (1, .data (Ty.sl (Ty.sl TValue)) y), (5, .data TInt i0)], []⟩ : St) (thenW (fun s' => ∃ m', m' < m ∧ (L32 x y) 0 m' s' K) (exitN 0 (ann32 (behind 0)) K)) =
 (cond (decide (i0 < (x.length : Int))) ((0 ≤ i0) ∧ (i0 < (x.length : Int)) ∧ (0 ≤ i0) ∧ (i0 < (y.length : Int)) ∧ (Sm (Ty.sl TValue) (nth (t := (Ty.sl TValue)) x i0)) ∧ (Sm (Ty.sl TValue) (nth (t := (Ty.sl TValue)) y i0)) ∧ ((nth (t := (Ty.sl TValue)) x i0) = (nth (t := (Ty.sl TValue)) y i0)) ∧ cond (!(true)) (K .ret (⟨[(4, .data Ty.bool false)], []⟩ : St)) ((∃ m_, m_ < m ∧ (L32 x y) 0 m_ (⟨[(0, .data (Ty.sl (Ty.sl TValue)) x), (1, .data (Ty.sl (Ty.sl TValue)) y), (5, .data TInt (wrap64 (i0 + (1 : Int))))], []⟩ : St) K))) (K (.exit 0) (⟨[], []⟩ : St))) := by kernel_rfl
theorem con32_ok : ConOk P 32 c32 := by
 refine con_okR (fn := f32) (code := bodyOf f32) (tab_ok tab_check cmp_check) consOk32 mixed func32 rfl rfl fun args hp K h0 => ?_
 obtain ⟨a0, a1, rfl, rfl, h1⟩ := args2_elim h0
 obtain ⟨x, rfl, h2⟩ := withD_elim h1
 obtain ⟨y, rfl, h3⟩ := withD_elim h2
 obtain ⟨h_x, h_y, p0, hK⟩ := h3
 have h : ok (F.laws_eqValueSS x y) (fun r => K (.data Ty.bool r) []) := ok_of_eq (F.laws_eqValueSS_eq x y h_x h_y p0) hK
 refine ⟨⟨show (2 : Nat) ≤ 27 by decide, show (2 : Nat) ≤ 1000000 by decide⟩, ann32, (L32 x y), (.dat Ty.bool), (loopsN1 (i0 := 0) (by kernel_rfl) ?_), ?_⟩
 ·clear h
  intro m_ s_ K_ h
  obtain ⟨hc0, i0, v0, rfl, hl0, rfl, hv0, h⟩ := (show LP32_0 x y m_ s_ K_ from h)
  rw [lvc32_0 x y i0 v0 _ K_]
  exact (loopI_step h (fun ht0 h => ⟨hl0, ⟨ht0, ⟨hl0, ⟨(ok_guard h).1, have h := (ok_guard h).2; ⟨(sm_nth h_x i0), ⟨(sm_nth h_y i0), ⟨(ok_guard h).1, have h := (ok_guard h).2; (ok_cond h (fun b_16 h => (ok_ret h :)) (fun b_16 h => (loopI_next (fun m hm => (show LP32_0 x y m _ _ from ⟨hc0, hm⟩)) () rfl hl0 low0 ht0 (sm_len h_x) trivial (ok_ret h :))))⟩⟩⟩⟩⟩⟩⟩) (fun h => (h trivial)))
 ·rw [vc32 x y K]
  exact (ok_cond h (fun b_1 h => (ok_ret h :)) (fun b_1 h => (loopI_start (fun m hm => ⟨trivial, hm⟩) (0 : Int) () rfl (Int.natCast_nonneg 0) trivial (ok_then h (fun v0 h hv0 => (ok_ret h :)) (fun q0 h => (ok_ret h :))))))
def c125 : Con := ⟨[.dat TColumn, .dat TColumn], fun args hp K => args2 (fun a0 a1 => withD TColumn a0 fun x => withD TColumn a1 fun y => (x = y) ∧ K (.data Ty.bool (true)) []) args hp, .plain⟩
def cons125 : Cons := []
@[reducible] def C125 : Ctx := ⟨tab, fun t => memN t cmps, cons125, 15, [], 0, false⟩
theorem consOk125 : ConsOk P C125 := by
 exact consOk_nil
def ann125 : Nat → List Dir
 | 0 => [.fixRow 2 TColumn, .fixRow 3 TColumn, .keep [2, 3]]
 | 1 => [.keep [2, 3, 9]]
 | 2 => [.keep [4]]
 | 3 => [.keep [14]]
 | 4 => [.keep [4]]
 | 5 => [.keep [4]]
 | _ => []
def L125 (x : (TColumn).D) (y : (TColumn).D) : Loops := fun id m st_ K => match id with
 | _ => False
theorem vc125 (x : (TColumn).D) (y : (TColumn).D) (K : AV → Hp → Prop) : awp C125 (L125 x y) ann125 (bodyOf f125) ⟨argEnv 0 [.data TColumn x, .data TColumn y], []⟩ (outK tab false f125.results.toList (hasBox []) (resK (.dat Ty.bool) K)) =
 (cond (!decide (x.1 = y.1)) (K (.data Ty.bool false) []) (cond (!(Ty.beq Ty.bool x.2.1 y.2.1)) (K (.data Ty.bool false) []) (K (.data Ty.bool true) []))) := by kernel_rfl
theorem con125_ok : ConOk P 125 c125 := by
 refine con_okR (fn := f125) (code := bodyOf f125) (tab_ok tab_check cmp_check) consOk125 mixed func125 rfl rfl fun args hp K h0 => ?_
 obtain ⟨a0, a1, rfl, rfl, h1⟩ := args2_elim h0
 obtain ⟨x, rfl, h2⟩ := withD_elim h1
 obtain ⟨y, rfl, h3⟩ := withD_elim h2
 obtain ⟨p0, hK⟩ := h3
 have h : ok (F.laws_eqColumn x y) (fun r => K (.data Ty.bool r) []) := ok_of_eq (F.laws_eqColumn_eq x y p0) hK
 refine ⟨⟨show (2 : Nat) ≤ 15 by decide, show (2 : Nat) ≤ 1000000 by decide⟩, ann125, (L125 x y), (.dat Ty.bool), (no_loops (by kernel_rfl)), ?_⟩
 ·rw [vc125 x y K]
  exact (ok_cond h (fun b_1 h => (ok_ret h :)) (fun b_1 h => (ok_cond h (fun b_2 h => (ok_ret h :)) (fun b_2 h => (ok_ret h :)))))
def c93 : Con := ⟨[.dat (Ty.sl TColumn), .dat (Ty.sl TColumn)], fun args hp K => args2 (fun a0 a1 => withD (Ty.sl TColumn) a0 fun x => withD (Ty.sl TColumn) a1 fun y => (Sm (Ty.sl TColumn) x) ∧ (Sm (Ty.sl TColumn) y) ∧ (x = y) ∧ K (.data Ty.bool (true)) []) args hp, .bor⟩
def cons93 : Cons := [(125, c125)]
@[reducible] def C93 : Ctx := ⟨tab, fun t => memN t cmps, cons93, 27, [], 0, false⟩
theorem consOk93 : ConsOk P C93 := by
 refine consOk_cons (enter_ok (fn := f125) func125 (by kernel_rfl) rfl) con125_ok ?_
 exact consOk_nil
def ann93 : Nat → List Dir
 | 0 => [.keep [0, 1]]
 | 1 => [.keep [0, 1, 10]]
 | 2 => [.keep [4]]
 | 3 => [.keep [0, 1, 5]]
 | 4 => [.keep [0, 1, 5, 14]]
 | 5 => [.keep [0, 1, 5]]
 | 6 => [.keep [0, 1, 5, 26]]
 | 7 => [.keep [4]]
 | 8 => [.keep [4]]
 | 100000 => [.keep []]
 | _ => []
@[reducible] def LP93_0 (x : (List (TColumn).D)) (y : (List (TColumn).D)) (m : Nat) (st_ : St) (K : X → St → Prop) : Prop := (True) ∧ LoopI (fun (i0 : Int) (v0 : Unit) => (⟨[(0, .data (Ty.sl TColumn) x), (1, .data (Ty.sl TColumn) y), (5, .data TInt i0)], []⟩ : St)) (0 : Int) (x.length : Int) (F.laws_eqColumnS_l0 x y) (fun v0 : Unit => True) (outD (fun v0 : Unit => True → K (.exit 0) (⟨[], []⟩ : St)) (fun q0 : Unit => K .ret (⟨[(4, .data Ty.bool false)], []⟩ : St))) m st_
def L93 (x : (List (TColumn).D)) (y : (List (TColumn).D)) : Loops := fun id m st_ K => match id with
 | 0 => LP93_0 x y m st_ K
 | _ => False
theorem vc93 (x : (List (TColumn).D)) (y : (List (TColumn).D)) (K : AV → Hp → Prop) : awp C93 (L93 x y) ann93 (bodyOf f93) ⟨argEnv 0 [.data (Ty.sl TColumn) x, .data (Ty.sl TColumn) y], []⟩ (outK tab false f93.results.toList (hasBox []) (resK (.dat Ty.bool) K)) =
 (cond (!decide ((x.length : Int) = (y.length : Int))) (K (.data Ty.bool false) []) ((∃ m_, (True) ∧ LoopI (fun (i0 : Int) (v0 : Unit) => (⟨[(0, .data (Ty.sl TColumn) x), (1, .data (Ty.sl TColumn) y), (5, .data TInt i0)], []⟩ : St)) (0 : Int) (x.length : Int) (F.laws_eqColumnS_l0 x y) (fun v0 : Unit => True) (outD (fun v0 : Unit => True → K (.data Ty.bool true) []) (fun q0 : Unit => K (.data Ty.bool false) [])) m_ (⟨[(0, .data (Ty.sl TColumn) x), (1, .data (Ty.sl TColumn) y), (5, .data TInt (0 : Int))], []⟩ : St)))) := by kernel_rfl
theorem lvc93_0 (x : (List (TColumn).D)) (y : (List (TColumn).D))  (i0 : Int) (v0 : Unit) (m : Nat) (K : X → St → Prop) : awp C93 (L93 x y) ann93 (loopAt (bodyOf f93) 0) (⟨[(0, .data (Ty.sl TColumn) x), (1, .data (Ty.sl TColumn) y), (5, .data TInt i0)], []⟩ : St) (thenW (fun s' => ∃ m', m' < m ∧ (L93 x y) 0 m' s' K) (exitN 0 (ann93 (behind 0)) K)) =
 (cond (decide (i0 < (x.length : Int))) ((0 ≤ i0) ∧ (i0 < (x.length : Int)) ∧ (0 ≤ i0) ∧ (i0 < (y.length : Int)) ∧ ((nth (t := TColumn) x i0) = (nth (t := TColumn) y i0)) ∧ cond (!(true)) (K .ret (⟨[(4, .data Ty.bool false)], []⟩ : St)) ((∃ m_, m_ < m ∧ (L93 x y) 0 m_ (⟨[(0, .data (Ty.sl TColumn) x), (1, .data (Ty.sl TColumn) y), (5, .data TInt (wrap64 (i0 + (1 : Int))))], []⟩ : St) K))) (K (.exit 0) (⟨[], []⟩ : St))) := by kernel_rfl
theorem con93_ok : ConOk P 93 c93 := by
 refine con_okR (fn := f93) (code := bodyOf f93) (tab_ok tab_check cmp_check) consOk93 mixed func93 rfl rfl fun args hp K h0 => ?_
 obtain ⟨a0, a1, rfl, rfl, h1⟩ := args2_elim h0
 obtain ⟨x, rfl, h2⟩ := withD_elim h1
 obtain ⟨y, rfl, h3⟩ := withD_elim h2
 obtain ⟨h_x, h_y, p0, hK⟩ := h3
 have h : ok (F.laws_eqColumnS x y) (fun r => K (.data Ty.bool r) []) := ok_of_eq (F.laws_eqColumnS_eq x y h_x h_y p0) hK
 refine ⟨⟨show (2 : Nat) ≤ 27 by decide, show (2 : Nat) ≤ 1000000 by decide⟩, ann93, (L93 x y), (.dat Ty.bool), (loopsN1 (i0 := 0) (by kernel_rfl) ?_), ?_⟩
 ·clear h
  intro m_ s_ K_ h
  obtain ⟨hc0, i0, v0, rfl, hl0, rfl, hv0, h⟩ := (show LP93_0 x y m_ s_ K_ from h)
  rw [lvc93_0 x y i0 v0 _ K_]
  exact (loopI_step h (fun ht0 h => ⟨hl0, ⟨ht0, ⟨hl0, ⟨(ok_guard h).1, have h := (ok_guard h).2; ⟨(ok_guard h).1, have h := (ok_guard h).2; (ok_cond h (fun b_16 h => (ok_ret h :)) (fun b_16 h => (loopI_next (fun m hm => (show LP93_0 x y m _ _ from ⟨hc0, hm⟩)) () rfl hl0 low0 ht0 (sm_len h_x) trivial (ok_ret h :))))⟩⟩⟩⟩⟩) (fun h => (h trivial)))
 ·rw [vc93 x y K]
  exact (ok_cond h (fun b_1 h => (ok_ret h :)) (fun b_1 h => (loopI_start (fun m hm => ⟨trivial, hm⟩) (0 : Int) () rfl (Int.natCast_nonneg 0) trivial (ok_then h (fun v0 h hv0 => (ok_ret h :)) (fun q0 h => (ok_ret h :))))))
def c44 : Con := ⟨[.dat TTable, .dat TTable], fun args hp K => args2 (fun a0 a1 => withD TTable a0 fun x => withD TTable a1 fun y => (Sm TTable x) ∧ (Sm TTable y) ∧ (x = y) ∧ K (.data Ty.bool (true)) []) args hp, .plain⟩
def cons44 : Cons := [(32, c32), (93, c93)]
@[reducible] def C44 : Ctx := ⟨tab, fun t => memN t cmps, cons44, 17, [], 0, false⟩
theorem consOk44 : ConsOk P C44 := by
 refine consOk_cons (enter_ok (fn := f32) func32 (by kernel_rfl) rfl) con32_ok ?_
 refine consOk_cons (enter_ok (fn := f93) func93 (by kernel_rfl) rfl) con93_ok ?_
 exact consOk_nil
def ann44 : Nat → List Dir
 | 0 => [.fixRow 2 TTable, .fixRow 3 TTable, .keep [2, 3]]
 | 1 => [.keep [2, 3, 10]]
 | 2 => [.keep [4]]
 | 3 => [.keep [16]]
 | 4 => [.keep [4]]
 | 5 => [.keep [4]]
 | _ => []
def L44 (x : (TTable).D) (y : (TTable).D) : Loops := fun id m st_ K => match id with
 | _ => False
theorem vc44 (x : (TTable).D) (y : (TTable).D) (K : AV → Hp → Prop) : awp C44 (L44 x y) ann44 (bodyOf f44) ⟨argEnv 0 [.data TTable x, .data TTable y], []⟩ (outK tab false f44.results.toList (hasBox []) (resK (.dat Ty.bool) K)) =
 ((Sm (Ty.sl TColumn) x.1) ∧ (Sm (Ty.sl TColumn) y.1) ∧ (x.1 = y.1) ∧ cond (!(true)) (K (.data Ty.bool false) []) ((Sm (Ty.sl (Ty.sl TValue)) x.2.1) ∧ (Sm (Ty.sl (Ty.sl TValue)) y.2.1) ∧ (x.2.1 = y.2.1) ∧ cond (!(true)) (K (.data Ty.bool false) []) (K (.data Ty.bool true) []))) := by kernel_rfl
theorem con44_ok : ConOk P 44 c44 := by
 refine con_okR (fn := f44) (code := bodyOf f44) (tab_ok tab_check cmp_check) consOk44 mixed func44 rfl rfl fun args hp K h0 => ?_
 obtain ⟨a0, a1, rfl, rfl, h1⟩ := args2_elim h0
 obtain ⟨x, rfl, h2⟩ := withD_elim h1
 obtain ⟨y, rfl, h3⟩ := withD_elim h2
 obtain ⟨h_x, h_y, p0, hK⟩ := h3
 have h : ok (F.laws_eqTable x y) (fun r => K (.data Ty.bool r) []) := ok_of_eq (F.laws_eqTable_eq x y h_x h_y p0) hK
 refine ⟨⟨show (2 : Nat) ≤ 17 by decide, show (2 : Nat) ≤ 1000000 by decide⟩, ann44, (L44 x y), (.dat Ty.bool), (no_loops (by kernel_rfl)), ?_⟩
 ·rw [vc44 x y K]
  exact ⟨h_x.1, ⟨h_y.1, ⟨(ok_guard h).1, have h := (ok_guard h).2; (ok_cond h (fun b_2 h => (ok_ret h :)) (fun b_2 h => ⟨h_x.2.1, ⟨h_y.2.1, ⟨(ok_guard h).1, have h := (ok_guard h).2; (cond_f (unf (bnf b_2)) (ok_ret h :))⟩⟩⟩))⟩⟩⟩
def c15 : Con := ⟨[.dat (Ty.sl TTable), .dat (Ty.sl TTable)], fun args hp K => args2 (fun a0 a1 => withD (Ty.sl TTable) a0 fun x => withD (Ty.sl TTable) a1 fun y => (Sm (Ty.sl TTable) x) ∧ (Sm (Ty.sl TTable) y) ∧ (x = y) ∧ K (.data Ty.bool (true)) []) args hp, .bor⟩
def cons15 : Cons := [(44, c44)]
@[reducible] def C15 : Ctx := ⟨tab, fun t => memN t cmps, cons15, 27, [], 0, false⟩
theorem consOk15 : ConsOk P C15 := by
 refine consOk_cons (enter_ok (fn := f44) func44 (by kernel_rfl) rfl) con44_ok ?_
 exact consOk_nil
def ann15 : Nat → List Dir
 | 0 => [.keep [0, 1]]
 | 1 => [.keep [0, 1, 10]]
 | 2 => [.keep [4]]
 | 3 => [.keep [0, 1, 5]]
 | 4 => [.keep [0, 1, 5, 14]]
 | 5 => [.keep [0, 1, 5]]
 | 6 => [.keep [0, 1, 5, 26]]
 | 7 => [.keep [4]]
 | 8 => [.keep [4]]
 | 100000 => [.keep []]
 | _ => []
@[reducible] def LP15_0 (x : (List (TTable).D)) (y : (List (TTable).D)) (m : Nat) (st_ : St) (K : X → St → Prop) : Prop := (True) ∧ LoopI (fun (i0 : Int) (v0 : Unit) => (⟨[(0, .data (Ty.sl TTable) x), (1, .data (Ty.sl TTable) y), (5, .data TInt i0)], []⟩ : St)) (0 : Int) (x.length : Int) (F.laws_eqTableS_l0 x y) (fun v0 : Unit => True) (outD (fun v0 : Unit => True → K (.exit 0) (⟨[], []⟩ : St)) (fun q0 : Unit => K .ret (⟨[(4, .data Ty.bool false)], []⟩ : St))) m st_
def L15 (x : (List (TTable).D)) (y : (List (TTable).D)) : Loops := fun id m st_ K => match id with
 | 0 => LP15_0 x y m st_ K
 | _ => False
theorem vc15 (x : (List (TTable).D)) (y : (List (TTable).D)) (K : AV → Hp → Prop) : awp C15 (L15 x y) ann15 (bodyOf f15) ⟨argEnv 0 [.data (Ty.sl TTable) x, .data (Ty.sl TTable) y], []⟩ (outK tab false f15.results.toList (hasBox []) (resK (.dat Ty.bool) K)) =
 (cond (!decide ((x.length : Int) = (y.length : Int))) (K (.data Ty.bool false) []) ((∃ m_, (True) ∧ LoopI (fun (i0 : Int) (v0 : Unit) => (⟨[(0, .data (Ty.sl TTable) x), (1, .data (Ty.sl TTable) y), (5, .data TInt i0)], []⟩ : St)) (0 : Int) (x.length : Int) (F.laws_eqTableS_l0 x y) (fun v0 : Unit => True) (outD (fun v0 : Unit => True → K (.data Ty.bool true) []) (fun q0 : Unit => K (.data Ty.bool false) [])) m_ (⟨[(0, .data (Ty.sl TTable) x), (1, .data (Ty.sl TTable) y), (5, .data TInt (0 : Int))], []⟩ : St)))) := by kernel_rfl
theorem lvc15_0 (x : (List (TTable).D)) (y : (List (TTable).D))  (i0 : Int) (v0 : Unit) (m : Nat) (K : X → St → Prop) : awp C15 (L15 x y) ann15 (loopAt (bodyOf f15) 0) (⟨[(0, .data (Ty.sl TTable) x), (1, .data (Ty.sl TTable) y), (5, .data TInt i0)], []⟩ : St) (thenW (fun s' => ∃ m', m' < m ∧ (L15 x y) 0 m' s' K) (exitN 0 (ann15 (behind 0)) K)) =
 (cond (decide (i0 < (x.length : Int))) ((0 ≤ i0) ∧ (i0 < (x.length : Int)) ∧ (0 ≤ i0) ∧ (i0 < (y.length : Int)) ∧ (Sm TTable (nth (t := TTable) x i0)) ∧ (Sm TTable (nth (t := TTable) y i0)) ∧ ((nth (t := TTable) x i0) = (nth (t := TTable) y i0)) ∧ cond (!(true)) (K .ret (⟨[(4, .data Ty.bool false)], []⟩ : St)) ((∃ m_, m_ < m ∧ (L15 x y) 0 m_ (⟨[(0, .data (Ty.sl TTable) x), (1, .data (Ty.sl TTable) y), (5, .data TInt (wrap64 (i0 + (1 : Int))))], []⟩ : St) K))) (K (.exit 0) (⟨[], []⟩ : St))) := by kernel_rfl
theorem con15_ok : ConOk P 15 c15 := by
 refine con_okR (fn := f15) (code := bodyOf f15) (tab_ok tab_check cmp_check) consOk15 mixed func15 rfl rfl fun args hp K h0 => ?_
 obtain ⟨a0, a1, rfl, rfl, h1⟩ := args2_elim h0
 obtain ⟨x, rfl, h2⟩ := withD_elim h1
 obtain ⟨y, rfl, h3⟩ := withD_elim h2
 obtain ⟨h_x, h_y, p0, hK⟩ := h3
 have h : ok (F.laws_eqTableS x y) (fun r => K (.data Ty.bool r) []) := ok_of_eq (F.laws_eqTableS_eq x y h_x h_y p0) hK
 refine ⟨⟨show (2 : Nat) ≤ 27 by decide, show (2 : Nat) ≤ 1000000 by decide⟩, ann15, (L15 x y), (.dat Ty.bool), (loopsN1 (i0 := 0) (by kernel_rfl) ?_), ?_⟩
 ·clear h
  intro m_ s_ K_ h
  obtain ⟨hc0, i0, v0, rfl, hl0, rfl, hv0, h⟩ := (show LP15_0 x y m_ s_ K_ from h)
  rw [lvc15_0 x y i0 v0 _ K_]
  exact (loopI_step h (fun ht0 h => ⟨hl0, ⟨ht0, ⟨hl0, ⟨(ok_guard h).1, have h := (ok_guard h).2; ⟨(sm_nth h_x i0), ⟨(sm_nth h_y i0), ⟨(ok_guard h).1, have h := (ok_guard h).2; (ok_cond h (fun b_16 h => (ok_ret h :)) (fun b_16 h => (loopI_next (fun m hm => (show LP15_0 x y m _ _ from ⟨hc0, hm⟩)) () rfl hl0 low0 ht0 (sm_len h_x) trivial (ok_ret h :))))⟩⟩⟩⟩⟩⟩⟩) (fun h => (h trivial)))
 ·rw [vc15 x y K]
  exact (ok_cond h (fun b_1 h => (ok_ret h :)) (fun b_1 h => (loopI_start (fun m hm => ⟨trivial, hm⟩) (0 : Int) () rfl (Int.natCast_nonneg 0) trivial (ok_then h (fun v0 h hv0 => (ok_ret h :)) (fun q0 h => (ok_ret h :))))))
def c94 : Con := ⟨[.dat TInt], fun args hp K => args1 (fun a0 => withD TInt a0 fun k => (k ≤ M.big) ∧ (∀ r : ByteArray, r = (M.markText k) → K (.data Ty.str r) [])) args hp, .plain⟩
def cons94 : Cons := []
@[reducible] def C94 : Ctx := ⟨tab, fun t => memN t cmps, cons94, 20, [], 0, false⟩
theorem consOk94 : ConsOk P C94 := by
 exact consOk_nil
def ann94 : Nat → List Dir
 | 0 => [.keep [0]]
 | 1 => [.keep [0, 5]]
 | 2 => [.keep [2]]
 | 3 => [.keep [0, 3]]
 | 4 => [.keep [0, 3, 7]]
 | 5 => [.keep [0, 3]]
 | 6 => [.keep [0, 3]]
 | 7 => [.keep [2]]
 | 100000 => [.keep [3]]
 | _ => []
@[reducible] def LP94_0 (k : Int) (m : Nat) (st_ : St) (K : X → St → Prop) : Prop := (True) ∧ LoopW (fun v0 : Int × ByteArray => (⟨[(0, .data TInt v0.1), (3, .data Ty.str v0.2)], []⟩ : St)) (F.laws_markText_l0 k) (fun v0 : Int × ByteArray => True) ((fun e0 : ByteArray => True → K (.exit 0) (⟨[(3, .data Ty.str e0)], []⟩ : St))) m st_
def L94 (k : Int) : Loops := fun id m st_ K => match id with
 | 0 => LP94_0 k m st_ K
 | _ => False
theorem vc94 (k : Int) (K : AV → Hp → Prop) : awp C94 (L94 k) ann94 (bodyOf f94) ⟨argEnv 0 [.data TInt k], []⟩ (outK tab false f94.results.toList (hasBox []) (resK (.dat Ty.str) K)) =
 (cond (decide (k ≤ (0 : Int))) (K (.data Ty.str (⟨#[109, 48]⟩ : ByteArray)) []) ((∃ m_, (True) ∧ LoopW (fun v0 : Int × ByteArray => (⟨[(0, .data TInt v0.1), (3, .data Ty.str v0.2)], []⟩ : St)) (F.laws_markText_l0 k) (fun v0 : Int × ByteArray => True) ((fun e0 : ByteArray => True → ((⟨#[109]⟩ : ByteArray).size + e0.size ≤ 9223372036854775807) ∧ K (.data Ty.str ((⟨#[109]⟩ : ByteArray) ++ e0)) [])) m_ (⟨[(0, .data TInt k), (3, .data Ty.str (⟨#[]⟩ : ByteArray))], []⟩ : St)))) := by kernel_rfl
theorem lvc94_0 (k : Int)  (v0 : Int × ByteArray) (m : Nat) (K : X → St → Prop) : awp C94 (L94 k) ann94 (loopAt (bodyOf f94) 0) (⟨[(0, .data TInt v0.1), (3, .data Ty.str v0.2)], []⟩ : St) (thenW (fun s' => ∃ m', m' < m ∧ (L94 k) 0 m' s' K) (exitN 0 (ann94 (behind 0)) K)) =
 (cond (decide ((0 : Int) < v0.1)) (((10 : Int) ≠ 0) ∧ ((strOf [((wrap64 ((48 : Int) + (v0.1.tmod (10 : Int)))) % 256)]).size + v0.2.size ≤ 9223372036854775807) ∧ ((10 : Int) ≠ 0) ∧ (∃ m_, m_ < m ∧ (L94 k) 0 m_ (⟨[(0, .data TInt (wrap64 (v0.1.tdiv (10 : Int)))), (3, .data Ty.str ((strOf [((wrap64 ((48 : Int) + (v0.1.tmod (10 : Int)))) % 256)]) ++ v0.2))], []⟩ : St) K)) (K (.exit 0) (⟨[(3, .data Ty.str v0.2)], []⟩ : St))) := by kernel_rfl
theorem con94_ok : ConOk P 94 c94 := by
 refine con_okR (fn := f94) (code := bodyOf f94) (tab_ok tab_check cmp_check) consOk94 mixed func94 rfl rfl fun args hp K h0 => ?_
 obtain ⟨a0, rfl, rfl, h1⟩ := args1_elim h0
 obtain ⟨k, rfl, h2⟩ := withD_elim h1
 obtain ⟨p0, hK⟩ := h2
 have h : ok (F.laws_markText k) (fun r => K (.data Ty.str r) []) := ok_of_eq (F.laws_markText_eq k p0) (hK _ rfl)
 refine ⟨⟨show (1 : Nat) ≤ 20 by decide, show (1 : Nat) ≤ 1000000 by decide⟩, ann94, (L94 k), (.dat Ty.str), (loopsN1 (i0 := 0) (by kernel_rfl) ?_), ?_⟩
 ·clear h
  intro m_ s_ K_ h
  obtain ⟨hc0, v0, rfl, hv0, h⟩ := (show LP94_0 k m_ s_ K_ from h)
  rw [lvc94_0 k v0 _ K_]
  exact (loopW_step h (fun m1 hm0 h => (ok_cond h (fun b_6 h => ⟨(by decide), ⟨(ok_guard h).1, have h := (ok_guard h).2; ⟨(by decide), (loopW_next (fun m hm => (show LP94_0 k m _ _ from ⟨hc0, hm⟩)) hm0 (wrap64 (v0.1.tdiv (10 : Int)), ((strOf [((wrap64 ((48 : Int) + (v0.1.tmod (10 : Int)))) % 256)]) ++ v0.2)) rfl trivial (ok_ret h :))⟩⟩⟩) (fun b_6 h => ((ok_ret h :) trivial)))))
 ·rw [vc94 k K]
  exact (ok_cond h (fun b_1 h => (ok_ret h :)) (fun b_1 h => (loopW_start (fun m hm => ⟨trivial, hm⟩) (k, (⟨#[]⟩ : ByteArray)) rfl trivial (ok_bind h (fun e0 h hv0 => ⟨(ok_guard h).1, have h := (ok_guard h).2; (ok_ret h :)⟩)))))
def c76 : Con := ⟨[.dat TInt], fun args hp K => hpN 1000000 false TValue (fun x => args2 (fun a0 a1 => withC 1000000 (x.length : Int) a0 (withD TInt a1 fun k => (Ln (Ty.sl TValue) x) ∧ (0 ≤ k) ∧ (k + (M.count (Ty.sl TValue) x : Int) ≤ M.big) ∧ (∀ r : (List (TValue).D) × Int, r = ((M.mark (Ty.sl TValue) x k, k + (M.count (Ty.sl TValue) x : Int))) → K (.data TInt r.2) [(1000000, .arr false TValue r.1)]))) args []) hp, .io⟩
def cons76 : Cons := [(94, c94)]
@[reducible] def C76 : Ctx := ⟨tab, fun t => memN t cmps, cons76, 35, [], 0, false⟩
theorem consOk76 : ConsOk P C76 := by
 refine consOk_cons (enter_ok (fn := f94) func94 (by kernel_rfl) rfl) con94_ok ?_
 exact consOk_nil
def ann76 : Nat → List Dir
 | 0 => [.keep [0, 1]]
 | 1 => [.keep [0, 1, 5]]
 | 2 => [.keep [0, 1, 5, 9]]
 | 3 => [.keep [0, 1, 5]]
 | 4 => [.keep [0, 1, 5]]
 | 5 => [.keep [0, 1, 5]]
 | 6 => [.keep [0, 1, 5]]
 | 7 => [.keep [0, 1, 5]]
 | 8 => [.keep [0, 1, 5]]
 | 9 => [.keep [0, 1, 5]]
 | 10 => [.keep [4]]
 | 100000 => [.keep [1]]
 | _ => []
@[reducible] def LP76_0 (x : (List (TValue).D)) (k : Int) (m : Nat) (st_ : St) (K : X → St → Prop) : Prop := (True) ∧ LoopI (fun (i0 : Int) (v0 : Int × (List (TValue).D)) => (⟨[(0, .clp 1000000 (x.length : Int)), (1, .data TInt v0.1), (5, .data TInt i0)], [(1000000, .arr false TValue v0.2)]⟩ : St)) (0 : Int) (x.length : Int) (F.laws_markValueS_l0 x k) (fun v0 : Int × (List (TValue).D) => True) (outD (fun v0 : Int × (List (TValue).D) => True → K (.exit 0) (⟨[(1, .data TInt v0.1)], [(1000000, .arr false TValue v0.2)]⟩ : St)) (fun _ => False)) m st_
def L76 (x : (List (TValue).D)) (k : Int) : Loops := fun id m st_ K => match id with
 | 0 => LP76_0 x k m st_ K
 | _ => False
theorem vc76 (x : (List (TValue).D)) (k : Int) (K : AV → Hp → Prop) : awp C76 (L76 x k) ann76 (bodyOf f76) ⟨argEnv 0 [.clp 1000000 (x.length : Int), .data TInt k], [(1000000, .arr false TValue x)]⟩ (outK tab false f76.results.toList (hasBox [(1000000, .arr false TValue x)]) (resK .raw K)) =
 ((∃ m_, (True) ∧ LoopI (fun (i0 : Int) (v0 : Int × (List (TValue).D)) => (⟨[(0, .clp 1000000 (x.length : Int)), (1, .data TInt v0.1), (5, .data TInt i0)], [(1000000, .arr false TValue v0.2)]⟩ : St)) (0 : Int) (x.length : Int) (F.laws_markValueS_l0 x k) (fun v0 : Int × (List (TValue).D) => True) (outD (fun v0 : Int × (List (TValue).D) => True → K (.data TInt v0.1) [(1000000, .arr false TValue v0.2)]) (fun _ => False)) m_ (⟨[(0, .clp 1000000 (x.length : Int)), (1, .data TInt k), (5, .data TInt (0 : Int))], [(1000000, .arr false TValue x)]⟩ : St))) := by kernel_rfl
theorem lvc76_0 (x : (List (TValue).D)) (k : Int)  (i0 : Int) (v0 : Int × (List (TValue).D)) (m : Nat) (K : X → St → Prop) : awp C76 (L76 x k) ann76 (loopAt (bodyOf f76) 0) (⟨[(0, .clp 1000000 (x.length : Int)), (1, .data TInt v0.1), (5, .data TInt i0)], [(1000000, .arr false TValue v0.2)]⟩ : St) (thenW (fun s' => ∃ m', m' < m ∧ (L76 x k) 0 m' s' K) (exitN 0 (ann76 (behind 0)) K)) =
 (cond (decide (i0 < (x.length : Int))) ((0 ≤ i0) ∧ (i0 < (x.length : Int)) ∧ (0 ≤ i0) ∧ (i0 < (x.length : Int)) ∧ (let y_6_5 : (List (TValue).D) := ((v0.2.set i0.toNat (v0.1, (nth (t := TValue) v0.2 i0).2)).set i0.toNat ((nth (t := TValue) (v0.2.set i0.toNat (v0.1, (nth (t := TValue) v0.2 i0).2)) i0).1, (wrap64 (v0.1 + (1 : Int)), ((nth (t := TValue) (v0.2.set i0.toNat (v0.1, (nth (t := TValue) v0.2 i0).2)) i0).2).2))); ((wrap64 (wrap64 (v0.1 + (1 : Int)) + (1 : Int))) ≤ M.big) ∧ (∀ r_8_3 : ByteArray, r_8_3 = (M.markText (wrap64 (wrap64 (v0.1 + (1 : Int)) + (1 : Int)))) → (0 ≤ i0) ∧ (i0 < (x.length : Int)) ∧ (let y_8_6 : (List (TValue).D) := (y_6_5.set i0.toNat ((nth (t := TValue) y_6_5 i0).1, (((nth (t := TValue) y_6_5 i0).2).1, (r_8_3, ())))); (∃ m_, m_ < m ∧ (L76 x k) 0 m_ (⟨[(0, .clp 1000000 (x.length : Int)), (1, .data TInt (wrap64 (wrap64 (wrap64 (v0.1 + (1 : Int)) + (1 : Int)) + (1 : Int)))), (5, .data TInt (wrap64 (i0 + (1 : Int))))], [(1000000, .arr false TValue y_8_6)]⟩ : St) K))))) (K (.exit 0) (⟨[(1, .data TInt v0.1)], [(1000000, .arr false TValue v0.2)]⟩ : St))) := by kernel_rfl
theorem con76_ok : ConOk P 76 c76 := by
 refine con_okR (fn := f76) (code := bodyOf f76) (tab_ok tab_check cmp_check) consOk76 mixed func76 rfl rfl fun args hp K h0 => ?_
 unfold c76 at h0
 dsimp only at h0
 obtain ⟨x, rfl, h00⟩ := hpN_elim (n := 1000000) (d := false) (t := TValue) h0
 obtain ⟨a0, a1, rfl, _, h1⟩ := args2_elim h00
 obtain ⟨rfl, h2⟩ := withC_elim h1
 obtain ⟨k, rfl, h3⟩ := withD_elim h2
 obtain ⟨h_x, p0, p1, hK⟩ := h3
 have h : ok (F.laws_markValueS x k) (fun r => K (.data TInt r.2) [(1000000, .arr false TValue r.1)]) := ok_of_eq (F.laws_markValueS_eq x k h_x p0 p1) (hK _ rfl)
 refine ⟨⟨show (2 : Nat) ≤ 35 by decide, show (2 : Nat) ≤ 1000000 by decide⟩, ann76, (L76 x k), .raw, (loopsN1 (i0 := 0) (by kernel_rfl) ?_), ?_⟩
 ·clear h
  intro m_ s_ K_ h
  obtain ⟨hc0, i0, v0, rfl, hl0, rfl, hv0, h⟩ := (show LP76_0 x k m_ s_ K_ from h)
  rw [lvc76_0 x k i0 v0 _ K_]
  exact (loopI_step h (fun ht0 h => ⟨hl0, ⟨ht0, ⟨hl0, ⟨ht0, (let y_6_5 : (List (TValue).D) := ((v0.2.set i0.toNat (v0.1, (nth (t := TValue) v0.2 i0).2)).set i0.toNat ((nth (t := TValue) (v0.2.set i0.toNat (v0.1, (nth (t := TValue) v0.2 i0).2)) i0).1, (wrap64 (v0.1 + (1 : Int)), ((nth (t := TValue) (v0.2.set i0.toNat (v0.1, (nth (t := TValue) v0.2 i0).2)) i0).2).2))); have h := ok_let h y_6_5 rfl; ⟨(ok_guard h).1, have h := (ok_guard h).2; (fun r_8_3 e_r_8_3 => have h := ok_let h r_8_3 e_r_8_3; ⟨hl0, ⟨ht0, (let y_8_6 : (List (TValue).D) := (y_6_5.set i0.toNat ((nth (t := TValue) y_6_5 i0).1, (((nth (t := TValue) y_6_5 i0).2).1, (r_8_3, ())))); have h := ok_let h y_8_6 rfl; (loopI_next (fun m hm => (show LP76_0 x k m _ _ from ⟨hc0, hm⟩)) (wrap64 (wrap64 (wrap64 (v0.1 + (1 : Int)) + (1 : Int)) + (1 : Int)), y_8_6) rfl hl0 low0 ht0 (sm_len h_x) trivial (ok_ret h :)))⟩⟩)⟩)⟩⟩⟩⟩) (fun h => (h trivial)))
 ·rw [vc76 x k K]
  exact (loopI_start (fun m hm => ⟨trivial, hm⟩) (0 : Int) (k, x) rfl (Int.natCast_nonneg 0) trivial (ok_then h (fun v0 h hv0 => (ok_ret h :)) (fun _ h => h.elim)))
def c33 : Con := ⟨[.dat TInt], fun args hp K => hpN 1000000 true (Ty.sl TValue) (fun x => args2 (fun a0 a1 => withC 1000000 (x.length : Int) a0 (withD TInt a1 fun k => (Ln (Ty.sl (Ty.sl TValue)) x) ∧ (0 ≤ k) ∧ (k + (M.count (Ty.sl (Ty.sl TValue)) x : Int) ≤ M.big) ∧ (∀ r : (List (List (TValue).D)) × Int, r = ((M.mark (Ty.sl (Ty.sl TValue)) x k, k + (M.count (Ty.sl (Ty.sl TValue)) x : Int))) → K (.data TInt r.2) [(1000000, .arr true (Ty.sl TValue) r.1)]))) args []) hp, .io⟩
def cons33 : Cons := [(76, c76)]
@[reducible] def C33 : Ctx := ⟨tab, fun t => memN t cmps, cons33, 19, [], 0, false⟩
theorem consOk33 : ConsOk P C33 := by
 refine consOk_cons (enter_ok (fn := f76) func76 (by kernel_rfl) rfl) con76_ok ?_
 exact consOk_nil
def ann33 : Nat → List Dir
 | 0 => [.keep [0, 1]]
 | 1 => [.keep [0, 1, 5]]
 | 2 => [.keep [0, 1, 5, 9]]
 | 3 => [.keep [0, 1, 5]]
 | 4 => [.keep [0, 1, 5]]
 | 5 => [.keep [4]]
 | 100000 => [.keep [1]]
 | _ => []
@[reducible] def LP33_0 (x : (List (List (TValue).D))) (k : Int) (m : Nat) (st_ : St) (K : X → St → Prop) : Prop := (True) ∧ LoopI (fun (i0 : Int) (v0 : Int × (List (List (TValue).D))) => (⟨[(0, .clp 1000000 (x.length : Int)), (1, .data TInt v0.1), (5, .data TInt i0)], [(1000000, .arr true (Ty.sl TValue) v0.2)]⟩ : St)) (0 : Int) (x.length : Int) (F.laws_markValueSS_l0 x k) (fun v0 : Int × (List (List (TValue).D)) => True) (outD (fun v0 : Int × (List (List (TValue).D)) => True → K (.exit 0) (⟨[(1, .data TInt v0.1)], [(1000000, .arr true (Ty.sl TValue) v0.2)]⟩ : St)) (fun _ => False)) m st_
def L33 (x : (List (List (TValue).D))) (k : Int) : Loops := fun id m st_ K => match id with
 | 0 => LP33_0 x k m st_ K
 | _ => False
theorem vc33 (x : (List (List (TValue).D))) (k : Int) (K : AV → Hp → Prop) : awp C33 (L33 x k) ann33 (bodyOf f33) ⟨argEnv 0 [.clp 1000000 (x.length : Int), .data TInt k], [(1000000, .arr true (Ty.sl TValue) x)]⟩ (outK tab false f33.results.toList (hasBox [(1000000, .arr true (Ty.sl TValue) x)]) (resK .raw K)) =
 ((∃ m_, (True) ∧ LoopI (fun (i0 : Int) (v0 : Int × (List (List (TValue).D))) => (⟨[(0, .clp 1000000 (x.length : Int)), (1, .data TInt v0.1), (5, .data TInt i0)], [(1000000, .arr true (Ty.sl TValue) v0.2)]⟩ : St)) (0 : Int) (x.length : Int) (F.laws_markValueSS_l0 x k) (fun v0 : Int × (List (List (TValue).D)) => True) (outD (fun v0 : Int × (List (List (TValue).D)) => True → K (.data TInt v0.1) [(1000000, .arr true (Ty.sl TValue) v0.2)]) (fun _ => False)) m_ (⟨[(0, .clp 1000000 (x.length : Int)), (1, .data TInt k), (5, .data TInt (0 : Int))], [(1000000, .arr true (Ty.sl TValue) x)]⟩ : St))) := by kernel_rfl
theorem lvc33_0 (x : (List (List (TValue).D))) (k : Int)  (i0 : Int) (v0 : Int × (List (List (TValue).D))) (m : Nat) (K : X → St → Prop) : awp C33 (L33 x k) ann33 (loopAt (bodyOf f33) 0) (⟨[(0, .clp 1000000 (x.length : Int)), (1, .data TInt v0.1), (5, .data TInt i0)], [(1000000, .arr true (Ty.sl TValue) v0.2)]⟩ : St) (thenW (fun s' => ∃ m', m' < m ∧ (L33 x k) 0 m' s' K) (exitN 0 (ann33 (behind 0)) K)) =
 (cond (decide (i0 < (x.length : Int))) ((0 ≤ i0) ∧ (i0 < (x.length : Int)) ∧ (((nth (t := (Ty.sl TValue)) v0.2 i0).length : Int) = ((nth (t := (Ty.sl TValue)) v0.2 i0).length : Int)) ∧ (Ln (Ty.sl TValue) (nth (t := (Ty.sl TValue)) v0.2 i0)) ∧ (0 ≤ v0.1) ∧ (v0.1 + (M.count (Ty.sl TValue) (nth (t := (Ty.sl TValue)) v0.2 i0) : Int) ≤ M.big) ∧ (∀ r_4_5 : (List (TValue).D) × Int, r_4_5 = ((M.mark (Ty.sl TValue) (nth (t := (Ty.sl TValue)) v0.2 i0) v0.1, v0.1 + (M.count (Ty.sl TValue) (nth (t := (Ty.sl TValue)) v0.2 i0) : Int))) → (r_4_5.1.length = (nth (t := (Ty.sl TValue)) v0.2 i0).length) ∧ (∃ m_, m_ < m ∧ (L33 x k) 0 m_ (⟨[(0, .clp 1000000 (x.length : Int)), (1, .data TInt r_4_5.2), (5, .data TInt (wrap64 (i0 + (1 : Int))))], [(1000000, .arr true (Ty.sl TValue) (v0.2.set i0.toNat r_4_5.1))]⟩ : St) K))) (K (.exit 0) (⟨[(1, .data TInt v0.1)], [(1000000, .arr true (Ty.sl TValue) v0.2)]⟩ : St))) := by kernel_rfl
theorem con33_ok : ConOk P 33 c33 := by
 refine con_okR (fn := f33) (code := bodyOf f33) (tab_ok tab_check cmp_check) consOk33 mixed func33 rfl rfl fun args hp K h0 => ?_
 unfold c33 at h0
 dsimp only at h0
 obtain ⟨x, rfl, h00⟩ := hpN_elim (n := 1000000) (d := true) (t := (Ty.sl TValue)) h0
 obtain ⟨a0, a1, rfl, _, h1⟩ := args2_elim h00
 obtain ⟨rfl, h2⟩ := withC_elim h1
 obtain ⟨k, rfl, h3⟩ := withD_elim h2
 obtain ⟨h_x, p0, p1, hK⟩ := h3
 have h : ok (F.laws_markValueSS x k) (fun r => K (.data TInt r.2) [(1000000, .arr true (Ty.sl TValue) r.1)]) := ok_of_eq (F.laws_markValueSS_eq x k h_x p0 p1) (hK _ rfl)
 refine ⟨⟨show (2 : Nat) ≤ 19 by decide, show (2 : Nat) ≤ 1000000 by decide⟩, ann33, (L33 x k), .raw, (loopsN1 (i0 := 0) (by kernel_rfl) ?_), ?_⟩
 ·clear h
  intro m_ s_ K_ h
  obtain ⟨hc0, i0, v0, rfl, hl0, rfl, hv0, h⟩ := (show LP33_0 x k m_ s_ K_ from h)
  rw [lvc33_0 x k i0 v0 _ K_]
  exact (loopI_step h (fun ht0 h => ⟨hl0, ⟨ht0, ⟨rfl, ⟨(ok_guard h).1, have h := (ok_guard h).2; ⟨(ok_guard h).1, have h := (ok_guard h).2; ⟨(ok_guard h).1, have h := (ok_guard h).2; (fun r_4_5 e_r_4_5 => have h := ok_let h r_4_5 e_r_4_5; ⟨(by rw [e_r_4_5]; exact (M.mark_len TValue _ _)), (loopI_next (fun m hm => (show LP33_0 x k m _ _ from ⟨hc0, hm⟩)) (r_4_5.2, (v0.2.set i0.toNat r_4_5.1)) rfl hl0 low0 ht0 (sm_len h_x) trivial (ok_ret h :))⟩)⟩⟩⟩⟩⟩⟩) (fun h => (h trivial)))
 ·rw [vc33 x k K]
  exact (loopI_start (fun m hm => ⟨trivial, hm⟩) (0 : Int) (k, x) rfl (Int.natCast_nonneg 0) trivial (ok_then h (fun v0 h hv0 => (ok_ret h :)) (fun _ h => h.elim)))
def c45 : Con := ⟨[.dat TInt], fun args hp K => hpN 1000000 false TColumn (fun x => args2 (fun a0 a1 => withC 1000000 (x.length : Int) a0 (withD TInt a1 fun k => (Ln (Ty.sl TColumn) x) ∧ (0 ≤ k) ∧ (k + (M.count (Ty.sl TColumn) x : Int) ≤ M.big) ∧ (∀ r : (List (TColumn).D) × Int, r = ((M.mark (Ty.sl TColumn) x k, k + (M.count (Ty.sl TColumn) x : Int))) → K (.data TInt r.2) [(1000000, .arr false TColumn r.1)]))) args []) hp, .io⟩
def cons45 : Cons := []
@[reducible] def C45 : Ctx := ⟨tab, fun t => memN t cmps, cons45, 29, [], 0, false⟩
theorem consOk45 : ConsOk P C45 := by
 exact consOk_nil
def ann45 : Nat → List Dir
 | 0 => [.keep [0, 1]]
 | 1 => [.keep [0, 1, 5]]
 | 2 => [.keep [0, 1, 5, 9]]
 | 3 => [.keep [0, 1, 5]]
 | 4 => [.keep [0, 1, 5]]
 | 5 => [.keep [0, 1, 5]]
 | 6 => [.keep [0, 1, 5]]
 | 7 => [.keep [0, 1, 5]]
 | 8 => [.keep [4]]
 | 100000 => [.keep [1]]
 | _ => []
@[reducible] def LP45_0 (x : (List (TColumn).D)) (k : Int) (m : Nat) (st_ : St) (K : X → St → Prop) : Prop := (True) ∧ LoopI (fun (i0 : Int) (v0 : Int × (List (TColumn).D)) => (⟨[(0, .clp 1000000 (x.length : Int)), (1, .data TInt v0.1), (5, .data TInt i0)], [(1000000, .arr false TColumn v0.2)]⟩ : St)) (0 : Int) (x.length : Int) (F.laws_markColumnS_l0 x k) (fun v0 : Int × (List (TColumn).D) => True) (outD (fun v0 : Int × (List (TColumn).D) => True → K (.exit 0) (⟨[(1, .data TInt v0.1)], [(1000000, .arr false TColumn v0.2)]⟩ : St)) (fun _ => False)) m st_
def L45 (x : (List (TColumn).D)) (k : Int) : Loops := fun id m st_ K => match id with
 | 0 => LP45_0 x k m st_ K
 | _ => False
theorem vc45 (x : (List (TColumn).D)) (k : Int) (K : AV → Hp → Prop) : awp C45 (L45 x k) ann45 (bodyOf f45) ⟨argEnv 0 [.clp 1000000 (x.length : Int), .data TInt k], [(1000000, .arr false TColumn x)]⟩ (outK tab false f45.results.toList (hasBox [(1000000, .arr false TColumn x)]) (resK .raw K)) =
 ((∃ m_, (True) ∧ LoopI (fun (i0 : Int) (v0 : Int × (List (TColumn).D)) => (⟨[(0, .clp 1000000 (x.length : Int)), (1, .data TInt v0.1), (5, .data TInt i0)], [(1000000, .arr false TColumn v0.2)]⟩ : St)) (0 : Int) (x.length : Int) (F.laws_markColumnS_l0 x k) (fun v0 : Int × (List (TColumn).D) => True) (outD (fun v0 : Int × (List (TColumn).D) => True → K (.data TInt v0.1) [(1000000, .arr false TColumn v0.2)]) (fun _ => False)) m_ (⟨[(0, .clp 1000000 (x.length : Int)), (1, .data TInt k), (5, .data TInt (0 : Int))], [(1000000, .arr false TColumn x)]⟩ : St))) := by kernel_rfl
theorem lvc45_0 (x : (List (TColumn).D)) (k : Int)  (i0 : Int) (v0 : Int × (List (TColumn).D)) (m : Nat) (K : X → St → Prop) : awp C45 (L45 x k) ann45 (loopAt (bodyOf f45) 0) (⟨[(0, .clp 1000000 (x.length : Int)), (1, .data TInt v0.1), (5, .data TInt i0)], [(1000000, .arr false TColumn v0.2)]⟩ : St) (thenW (fun s' => ∃ m', m' < m ∧ (L45 x k) 0 m' s' K) (exitN 0 (ann45 (behind 0)) K)) =
 (cond (decide (i0 < (x.length : Int))) ((0 ≤ i0) ∧ (i0 < (x.length : Int)) ∧ ((3 : Int) ≠ 0) ∧ (0 ≤ i0) ∧ (i0 < (x.length : Int)) ∧ (let y_6_7 : (List (TColumn).D) := ((v0.2.set i0.toNat (v0.1, (nth (t := TColumn) v0.2 i0).2)).set i0.toNat ((nth (t := TColumn) (v0.2.set i0.toNat (v0.1, (nth (t := TColumn) v0.2 i0).2)) i0).1, ((decide (((wrap64 (v0.1 + (1 : Int))).tmod (3 : Int)) = (0 : Int))), ()))); (∃ m_, m_ < m ∧ (L45 x k) 0 m_ (⟨[(0, .clp 1000000 (x.length : Int)), (1, .data TInt (wrap64 (wrap64 (v0.1 + (1 : Int)) + (1 : Int)))), (5, .data TInt (wrap64 (i0 + (1 : Int))))], [(1000000, .arr false TColumn y_6_7)]⟩ : St) K))) (K (.exit 0) (⟨[(1, .data TInt v0.1)], [(1000000, .arr false TColumn v0.2)]⟩ : St))) := by kernel_rfl
theorem con45_ok : ConOk P 45 c45 := by
 refine con_okR (fn := f45) (code := bodyOf f45) (tab_ok tab_check cmp_check) consOk45 mixed func45 rfl rfl fun args hp K h0 => ?_
 unfold c45 at h0
 dsimp only at h0
 obtain ⟨x, rfl, h00⟩ := hpN_elim (n := 1000000) (d := false) (t := TColumn) h0
 obtain ⟨a0, a1, rfl, _, h1⟩ := args2_elim h00
 obtain ⟨rfl, h2⟩ := withC_elim h1
 obtain ⟨k, rfl, h3⟩ := withD_elim h2
 obtain ⟨h_x, p0, p1, hK⟩ := h3
 have h : ok (F.laws_markColumnS x k) (fun r => K (.data TInt r.2) [(1000000, .arr false TColumn r.1)]) := ok_of_eq (F.laws_markColumnS_eq x k h_x p0 p1) (hK _ rfl)
 refine ⟨⟨show (2 : Nat) ≤ 29 by decide, show (2 : Nat) ≤ 1000000 by decide⟩, ann45, (L45 x k), .raw, (loopsN1 (i0 := 0) (by kernel_rfl) ?_), ?_⟩
 ·clear h
  intro m_ s_ K_ h
  obtain ⟨hc0, i0, v0, rfl, hl0, rfl, hv0, h⟩ := (show LP45_0 x k m_ s_ K_ from h)
  rw [lvc45_0 x k i0 v0 _ K_]
  exact (loopI_step h (fun ht0 h => ⟨hl0, ⟨ht0, ⟨(by decide), ⟨hl0, ⟨ht0, (let y_6_7 : (List (TColumn).D) := ((v0.2.set i0.toNat (v0.1, (nth (t := TColumn) v0.2 i0).2)).set i0.toNat ((nth (t := TColumn) (v0.2.set i0.toNat (v0.1, (nth (t := TColumn) v0.2 i0).2)) i0).1, ((decide (((wrap64 (v0.1 + (1 : Int))).tmod (3 : Int)) = (0 : Int))), ()))); have h := ok_let h y_6_7 rfl; (loopI_next (fun m hm => (show LP45_0 x k m _ _ from ⟨hc0, hm⟩)) (wrap64 (wrap64 (v0.1 + (1 : Int)) + (1 : Int)), y_6_7) rfl hl0 low0 ht0 (sm_len h_x) trivial (ok_ret h :)))⟩⟩⟩⟩⟩) (fun h => (h trivial)))
 ·rw [vc45 x k K]
  exact (loopI_start (fun m hm => ⟨trivial, hm⟩) (0 : Int) (k, x) rfl (Int.natCast_nonneg 0) trivial (ok_then h (fun v0 h hv0 => (ok_ret h :)) (fun _ h => h.elim)))
def c16 : Con := ⟨[.dat TInt], fun args hp K => hpN 1000000 true TTable (fun x => args2 (fun a0 a1 => withC 1000000 (x.length : Int) a0 (withD TInt a1 fun k => (Ln (Ty.sl TTable) x) ∧ (0 ≤ k) ∧ (k + (M.count (Ty.sl TTable) x : Int) ≤ M.big) ∧ (∀ r : (List (TTable).D) × Int, r = ((M.mark (Ty.sl TTable) x k, k + (M.count (Ty.sl TTable) x : Int))) → K (.data TInt r.2) [(1000000, .arr true TTable r.1)]))) args []) hp, .io⟩
def cons16 : Cons := [(33, c33), (45, c45)]
@[reducible] def C16 : Ctx := ⟨tab, fun t => memN t cmps, cons16, 27, [], 0, false⟩
theorem consOk16 : ConsOk P C16 := by
 refine consOk_cons (enter_ok (fn := f33) func33 (by kernel_rfl) rfl) con33_ok ?_
 refine consOk_cons (enter_ok (fn := f45) func45 (by kernel_rfl) rfl) con45_ok ?_
 exact consOk_nil
def ann16 : Nat → List Dir
 | 0 => [.keep [0, 1]]
 | 1 => [.keep [0, 1, 5]]
 | 2 => [.keep [0, 1, 5, 9]]
 | 3 => [.keep [0, 1, 5]]
 | 4 => [.keep [0, 1, 5]]
 | 5 => [.keep [0, 1, 5]]
 | 6 => [.keep [4]]
 | 100000 => [.keep [1]]
 | _ => []
@[reducible] def LP16_0 (x : (List (TTable).D)) (k : Int) (m : Nat) (st_ : St) (K : X → St → Prop) : Prop := (True) ∧ LoopI (fun (i0 : Int) (v0 : Int × (List (TTable).D)) => (⟨[(0, .clp 1000000 (x.length : Int)), (1, .data TInt v0.1), (5, .data TInt i0)], [(1000000, .arr true TTable v0.2)]⟩ : St)) (0 : Int) (x.length : Int) (F.laws_markTableS_l0 x k) (fun v0 : Int × (List (TTable).D) => True) (outD (fun v0 : Int × (List (TTable).D) => True → K (.exit 0) (⟨[(1, .data TInt v0.1)], [(1000000, .arr true TTable v0.2)]⟩ : St)) (fun _ => False)) m st_
def L16 (x : (List (TTable).D)) (k : Int) : Loops := fun id m st_ K => match id with
 | 0 => LP16_0 x k m st_ K
 | _ => False
theorem vc16 (x : (List (TTable).D)) (k : Int) (K : AV → Hp → Prop) : awp C16 (L16 x k) ann16 (bodyOf f16) ⟨argEnv 0 [.clp 1000000 (x.length : Int), .data TInt k], [(1000000, .arr true TTable x)]⟩ (outK tab false f16.results.toList (hasBox [(1000000, .arr true TTable x)]) (resK .raw K)) =
 ((∃ m_, (True) ∧ LoopI (fun (i0 : Int) (v0 : Int × (List (TTable).D)) => (⟨[(0, .clp 1000000 (x.length : Int)), (1, .data TInt v0.1), (5, .data TInt i0)], [(1000000, .arr true TTable v0.2)]⟩ : St)) (0 : Int) (x.length : Int) (F.laws_markTableS_l0 x k) (fun v0 : Int × (List (TTable).D) => True) (outD (fun v0 : Int × (List (TTable).D) => True → K (.data TInt v0.1) [(1000000, .arr true TTable v0.2)]) (fun _ => False)) m_ (⟨[(0, .clp 1000000 (x.length : Int)), (1, .data TInt k), (5, .data TInt (0 : Int))], [(1000000, .arr true TTable x)]⟩ : St))) := by kernel_rfl
theorem lvc16_0 (x : (List (TTable).D)) (k : Int)  (i0 : Int) (v0 : Int × (List (TTable).D)) (m : Nat) (K : X → St → Prop) : awp C16 (L16 x k) ann16 (loopAt (bodyOf f16) 0) (⟨[(0, .clp 1000000 (x.length : Int)), (1, .data TInt v0.1), (5, .data TInt i0)], [(1000000, .arr true TTable v0.2)]⟩ : St) (thenW (fun s' => ∃ m', m' < m ∧ (L16 x k) 0 m' s' K) (exitN 0 (ann16 (behind 0)) K)) =
 (cond (decide (i0 < (x.length : Int))) ((0 ≤ i0) ∧ (i0 < (x.length : Int)) ∧ ((((nth (t := TTable) v0.2 i0).1).length : Int) = (((nth (t := TTable) v0.2 i0).1).length : Int)) ∧ (Ln (Ty.sl TColumn) ((nth (t := TTable) v0.2 i0).1)) ∧ (0 ≤ v0.1) ∧ (v0.1 + (M.count (Ty.sl TColumn) ((nth (t := TTable) v0.2 i0).1) : Int) ≤ M.big) ∧ (∀ r_4_6 : (List (TColumn).D) × Int, r_4_6 = ((M.mark (Ty.sl TColumn) ((nth (t := TTable) v0.2 i0).1) v0.1, v0.1 + (M.count (Ty.sl TColumn) ((nth (t := TTable) v0.2 i0).1) : Int))) → (r_4_6.1.length = ((nth (t := TTable) v0.2 i0).1).length) ∧ (0 ≤ i0) ∧ (i0 < (x.length : Int)) ∧ (((((nth (t := TTable) (v0.2.set i0.toNat (r_4_6.1, (nth (t := TTable) v0.2 i0).2)) i0).2).1).length : Int) = ((((nth (t := TTable) (v0.2.set i0.toNat (r_4_6.1, (nth (t := TTable) v0.2 i0).2)) i0).2).1).length : Int)) ∧ (Ln (Ty.sl (Ty.sl TValue)) (((nth (t := TTable) (v0.2.set i0.toNat (r_4_6.1, (nth (t := TTable) v0.2 i0).2)) i0).2).1)) ∧ (0 ≤ r_4_6.2) ∧ (r_4_6.2 + (M.count (Ty.sl (Ty.sl TValue)) (((nth (t := TTable) (v0.2.set i0.toNat (r_4_6.1, (nth (t := TTable) v0.2 i0).2)) i0).2).1) : Int) ≤ M.big) ∧ (∀ r_5_6 : (List (List (TValue).D)) × Int, r_5_6 = ((M.mark (Ty.sl (Ty.sl TValue)) (((nth (t := TTable) (v0.2.set i0.toNat (r_4_6.1, (nth (t := TTable) v0.2 i0).2)) i0).2).1) r_4_6.2, r_4_6.2 + (M.count (Ty.sl (Ty.sl TValue)) (((nth (t := TTable) (v0.2.set i0.toNat (r_4_6.1, (nth (t := TTable) v0.2 i0).2)) i0).2).1) : Int))) → (r_5_6.1.length = (((nth (t := TTable) (v0.2.set i0.toNat (r_4_6.1, (nth (t := TTable) v0.2 i0).2)) i0).2).1).length) ∧ (∃ m_, m_ < m ∧ (L16 x k) 0 m_ (⟨[(0, .clp 1000000 (x.length : Int)), (1, .data TInt r_5_6.2), (5, .data TInt (wrap64 (i0 + (1 : Int))))], [(1000000, .arr true TTable ((v0.2.set i0.toNat (r_4_6.1, (nth (t := TTable) v0.2 i0).2)).set i0.toNat ((nth (t := TTable) (v0.2.set i0.toNat (r_4_6.1, (nth (t := TTable) v0.2 i0).2)) i0).1, (r_5_6.1, ()))))]⟩ : St) K)))) (K (.exit 0) (⟨[(1, .data TInt v0.1)], [(1000000, .arr true TTable v0.2)]⟩ : St))) := by kernel_rfl
theorem con16_ok : ConOk P 16 c16 := by
 refine con_okR (fn := f16) (code := bodyOf f16) (tab_ok tab_check cmp_check) consOk16 mixed func16 rfl rfl fun args hp K h0 => ?_
 unfold c16 at h0
 dsimp only at h0
 obtain ⟨x, rfl, h00⟩ := hpN_elim (n := 1000000) (d := true) (t := TTable) h0
 obtain ⟨a0, a1, rfl, _, h1⟩ := args2_elim h00
 obtain ⟨rfl, h2⟩ := withC_elim h1
 obtain ⟨k, rfl, h3⟩ := withD_elim h2
 obtain ⟨h_x, p0, p1, hK⟩ := h3
 have h : ok (F.laws_markTableS x k) (fun r => K (.data TInt r.2) [(1000000, .arr true TTable r.1)]) := ok_of_eq (F.laws_markTableS_eq x k h_x p0 p1) (hK _ rfl)
 refine ⟨⟨show (2 : Nat) ≤ 27 by decide, show (2 : Nat) ≤ 1000000 by decide⟩, ann16, (L16 x k), .raw, (loopsN1 (i0 := 0) (by kernel_rfl) ?_), ?_⟩
 ·clear h
  intro m_ s_ K_ h
  obtain ⟨hc0, i0, v0, rfl, hl0, rfl, hv0, h⟩ := (show LP16_0 x k m_ s_ K_ from h)
  rw [lvc16_0 x k i0 v0 _ K_]
  exact (loopI_step h (fun ht0 h => ⟨hl0, ⟨ht0, ⟨rfl, ⟨(ok_guard h).1, have h := (ok_guard h).2; ⟨(ok_guard h).1, have h := (ok_guard h).2; ⟨(ok_guard h).1, have h := (ok_guard h).2; (fun r_4_6 e_r_4_6 => have h := ok_let h r_4_6 e_r_4_6; ⟨(by rw [e_r_4_6]; exact (M.mark_len TColumn _ _)), ⟨hl0, ⟨ht0, ⟨rfl, ⟨(ok_guard h).1, have h := (ok_guard h).2; ⟨(ok_guard h).1, have h := (ok_guard h).2; ⟨(ok_guard h).1, have h := (ok_guard h).2; (fun r_5_6 e_r_5_6 => have h := ok_let h r_5_6 e_r_5_6; ⟨(by rw [e_r_5_6]; exact (M.mark_len (Ty.sl TValue) _ _)), (loopI_next (fun m hm => (show LP16_0 x k m _ _ from ⟨hc0, hm⟩)) (r_5_6.2, ((v0.2.set i0.toNat (r_4_6.1, (nth (t := TTable) v0.2 i0).2)).set i0.toNat ((nth (t := TTable) (v0.2.set i0.toNat (r_4_6.1, (nth (t := TTable) v0.2 i0).2)) i0).1, (r_5_6.1, ())))) rfl hl0 low0 ht0 (sm_len h_x) trivial (ok_ret h :))⟩)⟩⟩⟩⟩⟩⟩⟩)⟩⟩⟩⟩⟩⟩) (fun h => (h trivial)))
 ·rw [vc16 x k K]
  exact (loopI_start (fun m hm => ⟨trivial, hm⟩) (0 : Int) (k, x) rfl (Int.natCast_nonneg 0) trivial (ok_then h (fun v0 h hv0 => (ok_ret h :)) (fun _ h => h.elim)))
def c46 : Con := ⟨[.dat TInt], fun args hp K => hpN 1000000 false TPart (fun x => args2 (fun a0 a1 => withC 1000000 (x.length : Int) a0 (withD TInt a1 fun k => (Ln (Ty.sl TPart) x) ∧ (0 ≤ k) ∧ (k + (M.count (Ty.sl TPart) x : Int) ≤ M.big) ∧ (∀ r : (List (TPart).D) × Int, r = ((M.mark (Ty.sl TPart) x k, k + (M.count (Ty.sl TPart) x : Int))) → K (.data TInt r.2) [(1000000, .arr false TPart r.1)]))) args []) hp, .io⟩
def cons46 : Cons := [(94, c94)]
@[reducible] def C46 : Ctx := ⟨tab, fun t => memN t cmps, cons46, 52, [], 0, false⟩
theorem consOk46 : ConsOk P C46 := by
 refine consOk_cons (enter_ok (fn := f94) func94 (by kernel_rfl) rfl) con94_ok ?_
 exact consOk_nil
def ann46 : Nat → List Dir
 | 0 => [.keep [0, 1]]
 | 1 => [.keep [0, 1, 5]]
 | 2 => [.keep [0, 1, 5, 9]]
 | 3 => [.keep [0, 1, 5]]
 | 4 => [.keep [0, 1, 5]]
 | 5 => [.keep [0, 1, 5]]
 | 6 => [.keep [0, 1, 5]]
 | 7 => [.keep [0, 1, 5]]
 | 8 => [.keep [0, 1, 5]]
 | 9 => [.keep [0, 1, 5]]
 | 10 => [.keep [0, 1, 5]]
 | 11 => [.keep [0, 1, 5]]
 | 12 => [.keep [0, 1, 5]]
 | 13 => [.keep [0, 1, 5]]
 | 14 => [.keep [4]]
 | 100000 => [.keep [1]]
 | _ => []
@[reducible] def LP46_0 (x : (List (TPart).D)) (k : Int) (m : Nat) (st_ : St) (K : X → St → Prop) : Prop := (True) ∧ LoopI (fun (i0 : Int) (v0 : Int × (List (TPart).D)) => (⟨[(0, .clp 1000000 (x.length : Int)), (1, .data TInt v0.1), (5, .data TInt i0)], [(1000000, .arr false TPart v0.2)]⟩ : St)) (0 : Int) (x.length : Int) (F.laws_markPartS_l0 x k) (fun v0 : Int × (List (TPart).D) => True) (outD (fun v0 : Int × (List (TPart).D) => True → K (.exit 0) (⟨[(1, .data TInt v0.1)], [(1000000, .arr false TPart v0.2)]⟩ : St)) (fun _ => False)) m st_
def L46 (x : (List (TPart).D)) (k : Int) : Loops := fun id m st_ K => match id with
 | 0 => LP46_0 x k m st_ K
 | _ => False
theorem vc46 (x : (List (TPart).D)) (k : Int) (K : AV → Hp → Prop) : awp C46 (L46 x k) ann46 (bodyOf f46) ⟨argEnv 0 [.clp 1000000 (x.length : Int), .data TInt k], [(1000000, .arr false TPart x)]⟩ (outK tab false f46.results.toList (hasBox [(1000000, .arr false TPart x)]) (resK .raw K)) =
 ((∃ m_, (True) ∧ LoopI (fun (i0 : Int) (v0 : Int × (List (TPart).D)) => (⟨[(0, .clp 1000000 (x.length : Int)), (1, .data TInt v0.1), (5, .data TInt i0)], [(1000000, .arr false TPart v0.2)]⟩ : St)) (0 : Int) (x.length : Int) (F.laws_markPartS_l0 x k) (fun v0 : Int × (List (TPart).D) => True) (outD (fun v0 : Int × (List (TPart).D) => True → K (.data TInt v0.1) [(1000000, .arr false TPart v0.2)]) (fun _ => False)) m_ (⟨[(0, .clp 1000000 (x.length : Int)), (1, .data TInt k), (5, .data TInt (0 : Int))], [(1000000, .arr false TPart x)]⟩ : St))) := by kernel_rfl
theorem lvc46_0 (x : (List (TPart).D)) (k : Int)  (i0 : Int) (v0 : Int × (List (TPart).D)) (m : Nat) (K : X → St → Prop) : awp C46 (L46 x k) ann46 (loopAt (bodyOf f46) 0) (⟨[(0, .clp 1000000 (x.length : Int)), (1, .data TInt v0.1), (5, .data TInt i0)], [(1000000, .arr false TPart v0.2)]⟩ : St) (thenW (fun s' => ∃ m', m' < m ∧ (L46 x k) 0 m' s' K) (exitN 0 (ann46 (behind 0)) K)) =
 (cond (decide (i0 < (x.length : Int))) ((0 ≤ i0) ∧ (i0 < (x.length : Int)) ∧ (0 ≤ i0) ∧ (i0 < (x.length : Int)) ∧ (let y_6_5 : (List (TPart).D) := ((v0.2.set i0.toNat (v0.1, (nth (t := TPart) v0.2 i0).2)).set i0.toNat ((nth (t := TPart) (v0.2.set i0.toNat (v0.1, (nth (t := TPart) v0.2 i0).2)) i0).1, (wrap64 (v0.1 + (1 : Int)), ((nth (t := TPart) (v0.2.set i0.toNat (v0.1, (nth (t := TPart) v0.2 i0).2)) i0).2).2))); (0 ≤ i0) ∧ (i0 < (x.length : Int)) ∧ (let y_8_6 : (List (TPart).D) := (y_6_5.set i0.toNat ((nth (t := TPart) y_6_5 i0).1, (((nth (t := TPart) y_6_5 i0).2).1, ((wrap64 (wrap64 (v0.1 + (1 : Int)) + (1 : Int)), ((((nth (t := TPart) y_6_5 i0).2).2).1).2), ())))); (0 ≤ i0) ∧ (i0 < (x.length : Int)) ∧ (let y_10_6 : (List (TPart).D) := (y_8_6.set i0.toNat ((nth (t := TPart) y_8_6 i0).1, (((nth (t := TPart) y_8_6 i0).2).1, ((((((nth (t := TPart) y_8_6 i0).2).2).1).1, (wrap64 (wrap64 (wrap64 (v0.1 + (1 : Int)) + (1 : Int)) + (1 : Int)), (((((nth (t := TPart) y_8_6 i0).2).2).1).2).2)), ())))); ((wrap64 (wrap64 (wrap64 (wrap64 (v0.1 + (1 : Int)) + (1 : Int)) + (1 : Int)) + (1 : Int))) ≤ M.big) ∧ (∀ r_12_3 : ByteArray, r_12_3 = (M.markText (wrap64 (wrap64 (wrap64 (wrap64 (v0.1 + (1 : Int)) + (1 : Int)) + (1 : Int)) + (1 : Int)))) → (0 ≤ i0) ∧ (i0 < (x.length : Int)) ∧ (let y_12_7 : (List (TPart).D) := (y_10_6.set i0.toNat ((nth (t := TPart) y_10_6 i0).1, (((nth (t := TPart) y_10_6 i0).2).1, ((((((nth (t := TPart) y_10_6 i0).2).2).1).1, ((((((nth (t := TPart) y_10_6 i0).2).2).1).2).1, (r_12_3, ()))), ())))); (∃ m_, m_ < m ∧ (L46 x k) 0 m_ (⟨[(0, .clp 1000000 (x.length : Int)), (1, .data TInt (wrap64 (wrap64 (wrap64 (wrap64 (wrap64 (v0.1 + (1 : Int)) + (1 : Int)) + (1 : Int)) + (1 : Int)) + (1 : Int)))), (5, .data TInt (wrap64 (i0 + (1 : Int))))], [(1000000, .arr false TPart y_12_7)]⟩ : St) K))))))) (K (.exit 0) (⟨[(1, .data TInt v0.1)], [(1000000, .arr false TPart v0.2)]⟩ : St))) := by kernel_rfl
theorem con46_ok : ConOk P 46 c46 := by
 refine con_okR (fn := f46) (code := bodyOf f46) (tab_ok tab_check cmp_check) consOk46 mixed func46 rfl rfl fun args hp K h0 => ?_
 unfold c46 at h0
 dsimp only at h0
 obtain ⟨x, rfl, h00⟩ := hpN_elim (n := 1000000) (d := false) (t := TPart) h0
 obtain ⟨a0, a1, rfl, _, h1⟩ := args2_elim h00
 obtain ⟨rfl, h2⟩ := withC_elim h1
 obtain ⟨k, rfl, h3⟩ := withD_elim h2
 obtain ⟨h_x, p0, p1, hK⟩ := h3
 have h : ok (F.laws_markPartS x k) (fun r => K (.data TInt r.2) [(1000000, .arr false TPart r.1)]) := ok_of_eq (F.laws_markPartS_eq x k h_x p0 p1) (hK _ rfl)
 refine ⟨⟨show (2 : Nat) ≤ 52 by decide, show (2 : Nat) ≤ 1000000 by decide⟩, ann46, (L46 x k), .raw, (loopsN1 (i0 := 0) (by kernel_rfl) ?_), ?_⟩
 ·clear h
  intro m_ s_ K_ h
  obtain ⟨hc0, i0, v0, rfl, hl0, rfl, hv0, h⟩ := (show LP46_0 x k m_ s_ K_ from h)
  rw [lvc46_0 x k i0 v0 _ K_]
  exact (loopI_step h (fun ht0 h => ⟨hl0, ⟨ht0, ⟨hl0, ⟨ht0, (let y_6_5 : (List (TPart).D) := ((v0.2.set i0.toNat (v0.1, (nth (t := TPart) v0.2 i0).2)).set i0.toNat ((nth (t := TPart) (v0.2.set i0.toNat (v0.1, (nth (t := TPart) v0.2 i0).2)) i0).1, (wrap64 (v0.1 + (1 : Int)), ((nth (t := TPart) (v0.2.set i0.toNat (v0.1, (nth (t := TPart) v0.2 i0).2)) i0).2).2))); have h := ok_let h y_6_5 rfl; ⟨hl0, ⟨ht0, (let y_8_6 : (List (TPart).D) := (y_6_5.set i0.toNat ((nth (t := TPart) y_6_5 i0).1, (((nth (t := TPart) y_6_5 i0).2).1, ((wrap64 (wrap64 (v0.1 + (1 : Int)) + (1 : Int)), ((((nth (t := TPart) y_6_5 i0).2).2).1).2), ())))); have h := ok_let h y_8_6 rfl; ⟨hl0, ⟨ht0, (let y_10_6 : (List (TPart).D) := (y_8_6.set i0.toNat ((nth (t := TPart) y_8_6 i0).1, (((nth (t := TPart) y_8_6 i0).2).1, ((((((nth (t := TPart) y_8_6 i0).2).2).1).1, (wrap64 (wrap64 (wrap64 (v0.1 + (1 : Int)) + (1 : Int)) + (1 : Int)), (((((nth (t := TPart) y_8_6 i0).2).2).1).2).2)), ())))); have h := ok_let h y_10_6 rfl; ⟨(ok_guard h).1, have h := (ok_guard h).2; (fun r_12_3 e_r_12_3 => have h := ok_let h r_12_3 e_r_12_3; ⟨hl0, ⟨ht0, (let y_12_7 : (List (TPart).D) := (y_10_6.set i0.toNat ((nth (t := TPart) y_10_6 i0).1, (((nth (t := TPart) y_10_6 i0).2).1, ((((((nth (t := TPart) y_10_6 i0).2).2).1).1, ((((((nth (t := TPart) y_10_6 i0).2).2).1).2).1, (r_12_3, ()))), ())))); have h := ok_let h y_12_7 rfl; (loopI_next (fun m hm => (show LP46_0 x k m _ _ from ⟨hc0, hm⟩)) (wrap64 (wrap64 (wrap64 (wrap64 (wrap64 (v0.1 + (1 : Int)) + (1 : Int)) + (1 : Int)) + (1 : Int)) + (1 : Int)), y_12_7) rfl hl0 low0 ht0 (sm_len h_x) trivial (ok_ret h :)))⟩⟩)⟩)⟩⟩)⟩⟩)⟩⟩⟩⟩) (fun h => (h trivial)))
 ·rw [vc46 x k K]
  exact (loopI_start (fun m hm => ⟨trivial, hm⟩) (0 : Int) (k, x) rfl (Int.natCast_nonneg 0) trivial (ok_then h (fun v0 h hv0 => (ok_ret h :)) (fun _ h => h.elim)))
def c47 : Con := ⟨[.dat TInt], fun args hp K => hpN 1000000 false TInt (fun x => args2 (fun a0 a1 => withC 1000000 (x.length : Int) a0 (withD TInt a1 fun k => (Ln (Ty.sl TInt) x) ∧ (0 ≤ k) ∧ (k + (M.count (Ty.sl TInt) x : Int) ≤ M.big) ∧ (∀ r : (List Int) × Int, r = ((M.mark (Ty.sl TInt) x k, k + (M.count (Ty.sl TInt) x : Int))) → K (.data TInt r.2) [(1000000, .arr false TInt r.1)]))) args []) hp, .io⟩
def cons47 : Cons := []
@[reducible] def C47 : Ctx := ⟨tab, fun t => memN t cmps, cons47, 19, [], 0, false⟩
theorem consOk47 : ConsOk P C47 := by
 exact consOk_nil
def ann47 : Nat → List Dir
 | 0 => [.keep [0, 1]]
 | 1 => [.keep [0, 1, 5]]
 | 2 => [.keep [0, 1, 5, 9]]
 | 3 => [.keep [0, 1, 5]]
 | 4 => [.keep [0, 1, 5]]
 | 5 => [.keep [0, 1, 5]]
 | 6 => [.keep [4]]
 | 100000 => [.keep [1]]
 | _ => []
@[reducible] def LP47_0 (x : (List Int)) (k : Int) (m : Nat) (st_ : St) (K : X → St → Prop) : Prop := (True) ∧ LoopI (fun (i0 : Int) (v0 : Int × (List Int)) => (⟨[(0, .clp 1000000 (x.length : Int)), (1, .data TInt v0.1), (5, .data TInt i0)], [(1000000, .arr false TInt v0.2)]⟩ : St)) (0 : Int) (x.length : Int) (F.laws_markIntS_l0 x k) (fun v0 : Int × (List Int) => True) (outD (fun v0 : Int × (List Int) => True → K (.exit 0) (⟨[(1, .data TInt v0.1)], [(1000000, .arr false TInt v0.2)]⟩ : St)) (fun _ => False)) m st_
def L47 (x : (List Int)) (k : Int) : Loops := fun id m st_ K => match id with
 | 0 => LP47_0 x k m st_ K
 | _ => False
theorem vc47 (x : (List Int)) (k : Int) (K : AV → Hp → Prop) : awp C47 (L47 x k) ann47 (bodyOf f47) ⟨argEnv 0 [.clp 1000000 (x.length : Int), .data TInt k], [(1000000, .arr false TInt x)]⟩ (outK tab false f47.results.toList (hasBox [(1000000, .arr false TInt x)]) (resK .raw K)) =
 ((∃ m_, (True) ∧ LoopI (fun (i0 : Int) (v0 : Int × (List Int)) => (⟨[(0, .clp 1000000 (x.length : Int)), (1, .data TInt v0.1), (5, .data TInt i0)], [(1000000, .arr false TInt v0.2)]⟩ : St)) (0 : Int) (x.length : Int) (F.laws_markIntS_l0 x k) (fun v0 : Int × (List Int) => True) (outD (fun v0 : Int × (List Int) => True → K (.data TInt v0.1) [(1000000, .arr false TInt v0.2)]) (fun _ => False)) m_ (⟨[(0, .clp 1000000 (x.length : Int)), (1, .data TInt k), (5, .data TInt (0 : Int))], [(1000000, .arr false TInt x)]⟩ : St))) := by kernel_rfl
theorem lvc47_0 (x : (List Int)) (k : Int)  (i0 : Int) (v0 : Int × (List Int)) (m : Nat) (K : X → St → Prop) : awp C47 (L47 x k) ann47 (loopAt (bodyOf f47) 0) (⟨[(0, .clp 1000000 (x.length : Int)), (1, .data TInt v0.1), (5, .data TInt i0)], [(1000000, .arr false TInt v0.2)]⟩ : St) (thenW (fun s' => ∃ m', m' < m ∧ (L47 x k) 0 m' s' K) (exitN 0 (ann47 (behind 0)) K)) =
 (cond (decide (i0 < (x.length : Int))) ((0 ≤ i0) ∧ (i0 < (x.length : Int)) ∧ (∃ m_, m_ < m ∧ (L47 x k) 0 m_ (⟨[(0, .clp 1000000 (x.length : Int)), (1, .data TInt (wrap64 (v0.1 + (1 : Int)))), (5, .data TInt (wrap64 (i0 + (1 : Int))))], [(1000000, .arr false TInt (v0.2.set i0.toNat v0.1))]⟩ : St) K)) (K (.exit 0) (⟨[(1, .data TInt v0.1)], [(1000000, .arr false TInt v0.2)]⟩ : St))) := by kernel_rfl
theorem con47_ok : ConOk P 47 c47 := by
 refine con_okR (fn := f47) (code := bodyOf f47) (tab_ok tab_check cmp_check) consOk47 mixed func47 rfl rfl fun args hp K h0 => ?_
 unfold c47 at h0
 dsimp only at h0
 obtain ⟨x, rfl, h00⟩ := hpN_elim (n := 1000000) (d := false) (t := TInt) h0
 obtain ⟨a0, a1, rfl, _, h1⟩ := args2_elim h00
 obtain ⟨rfl, h2⟩ := withC_elim h1
 obtain ⟨k, rfl, h3⟩ := withD_elim h2
 obtain ⟨h_x, p0, p1, hK⟩ := h3
 have h : ok (F.laws_markIntS x k) (fun r => K (.data TInt r.2) [(1000000, .arr false TInt r.1)]) := ok_of_eq (F.laws_markIntS_eq x k h_x p0 p1) (hK _ rfl)
 refine ⟨⟨show (2 : Nat) ≤ 19 by decide, show (2 : Nat) ≤ 1000000 by decide⟩, ann47, (L47 x k), .raw, (loopsN1 (i0 := 0) (by kernel_rfl) ?_), ?_⟩
 ·clear h
  intro m_ s_ K_ h
  obtain ⟨hc0, i0, v0, rfl, hl0, rfl, hv0, h⟩ := (show LP47_0 x k m_ s_ K_ from h)
  rw [lvc47_0 x k i0 v0 _ K_]
  exact (loopI_step h (fun ht0 h => ⟨hl0, ⟨ht0, (loopI_next (fun m hm => (show LP47_0 x k m _ _ from ⟨hc0, hm⟩)) (wrap64 (v0.1 + (1 : Int)), (v0.2.set i0.toNat v0.1)) rfl hl0 low0 ht0 (sm_len h_x) trivial (ok_ret h :))⟩⟩) (fun h => (h trivial)))
 ·rw [vc47 x k K]
  exact (loopI_start (fun m hm => ⟨trivial, hm⟩) (0 : Int) (k, x) rfl (Int.natCast_nonneg 0) trivial (ok_then h (fun v0 h hv0 => (ok_ret h :)) (fun _ h => h.elim)))
def c17 : Con := ⟨[.dat TInt], fun args hp K => hpN 1000000 true TStep (fun x => args2 (fun a0 a1 => withC 1000000 (x.length : Int) a0 (withD TInt a1 fun k => (Ln (Ty.sl TStep) x) ∧ (0 ≤ k) ∧ (k + (M.count (Ty.sl TStep) x : Int) ≤ M.big) ∧ (∀ r : (List (TStep).D) × Int, r = ((M.mark (Ty.sl TStep) x k, k + (M.count (Ty.sl TStep) x : Int))) → K (.data TInt r.2) [(1000000, .arr true TStep r.1)]))) args []) hp, .io⟩
def cons17 : Cons := [(46, c46), (47, c47)]
@[reducible] def C17 : Ctx := ⟨tab, fun t => memN t cmps, cons17, 55, [], 0, false⟩
theorem consOk17 : ConsOk P C17 := by
 refine consOk_cons (enter_ok (fn := f46) func46 (by kernel_rfl) rfl) con46_ok ?_
 refine consOk_cons (enter_ok (fn := f47) func47 (by kernel_rfl) rfl) con47_ok ?_
 exact consOk_nil
def ann17 : Nat → List Dir
 | 0 => [.keep [0, 1]]
 | 1 => [.keep [0, 1, 5]]
 | 2 => [.keep [0, 1, 5, 9]]
 | 3 => [.keep [0, 1, 5]]
 | 4 => [.keep [0, 1, 5]]
 | 5 => [.keep [0, 1, 5]]
 | 6 => [.keep [0, 1, 5]]
 | 7 => [.keep [0, 1, 5]]
 | 8 => [.keep [0, 1, 5]]
 | 9 => [.keep [0, 1, 5]]
 | 10 => [.keep [0, 1, 5]]
 | 11 => [.keep [0, 1, 5]]
 | 12 => [.keep [0, 1, 5]]
 | 13 => [.keep [0, 1, 5]]
 | 14 => [.keep [4]]
 | 100000 => [.keep [1]]
 | _ => []
@[reducible] def LP17_0 (x : (List (TStep).D)) (k : Int) (m : Nat) (st_ : St) (K : X → St → Prop) : Prop := (True) ∧ LoopI (fun (i0 : Int) (v0 : Int × (List (TStep).D)) => (⟨[(0, .clp 1000000 (x.length : Int)), (1, .data TInt v0.1), (5, .data TInt i0)], [(1000000, .arr true TStep v0.2)]⟩ : St)) (0 : Int) (x.length : Int) (F.laws_markStepS_l0 x k) (fun v0 : Int × (List (TStep).D) => True) (outD (fun v0 : Int × (List (TStep).D) => True → K (.exit 0) (⟨[(1, .data TInt v0.1)], [(1000000, .arr true TStep v0.2)]⟩ : St)) (fun _ => False)) m st_
def L17 (x : (List (TStep).D)) (k : Int) : Loops := fun id m st_ K => match id with
 | 0 => LP17_0 x k m st_ K
 | _ => False
theorem vc17 (x : (List (TStep).D)) (k : Int) (K : AV → Hp → Prop) : awp C17 (L17 x k) ann17 (bodyOf f17) ⟨argEnv 0 [.clp 1000000 (x.length : Int), .data TInt k], [(1000000, .arr true TStep x)]⟩ (outK tab false f17.results.toList (hasBox [(1000000, .arr true TStep x)]) (resK .raw K)) =
 ((∃ m_, (True) ∧ LoopI (fun (i0 : Int) (v0 : Int × (List (TStep).D)) => (⟨[(0, .clp 1000000 (x.length : Int)), (1, .data TInt v0.1), (5, .data TInt i0)], [(1000000, .arr true TStep v0.2)]⟩ : St)) (0 : Int) (x.length : Int) (F.laws_markStepS_l0 x k) (fun v0 : Int × (List (TStep).D) => True) (outD (fun v0 : Int × (List (TStep).D) => True → K (.data TInt v0.1) [(1000000, .arr true TStep v0.2)]) (fun _ => False)) m_ (⟨[(0, .clp 1000000 (x.length : Int)), (1, .data TInt k), (5, .data TInt (0 : Int))], [(1000000, .arr true TStep x)]⟩ : St))) := by kernel_rfl
theorem lvc17_0 (x : (List (TStep).D)) (k : Int)  (i0 : Int) (v0 : Int × (List (TStep).D)) (m : Nat) (K : X → St → Prop) : awp C17 (L17 x k) ann17 (loopAt (bodyOf f17) 0) (⟨[(0, .clp 1000000 (x.length : Int)), (1, .data TInt v0.1), (5, .data TInt i0)], [(1000000, .arr true TStep v0.2)]⟩ : St) (thenW (fun s' => ∃ m', m' < m ∧ (L17 x k) 0 m' s' K) (exitN 0 (ann17 (behind 0)) K)) =
 (cond (decide (i0 < (x.length : Int))) ((0 ≤ i0) ∧ (i0 < (x.length : Int)) ∧ (0 ≤ i0) ∧ (i0 < (x.length : Int)) ∧ (let y_6_5 : (List (TStep).D) := ((v0.2.set i0.toNat (v0.1, (nth (t := TStep) v0.2 i0).2)).set i0.toNat ((nth (t := TStep) (v0.2.set i0.toNat (v0.1, (nth (t := TStep) v0.2 i0).2)) i0).1, (wrap64 (v0.1 + (1 : Int)), ((nth (t := TStep) (v0.2.set i0.toNat (v0.1, (nth (t := TStep) v0.2 i0).2)) i0).2).2))); (0 ≤ i0) ∧ (i0 < (x.length : Int)) ∧ (let y_8_5 : (List (TStep).D) := (y_6_5.set i0.toNat ((nth (t := TStep) y_6_5 i0).1, (((nth (t := TStep) y_6_5 i0).2).1, (wrap64 (wrap64 (v0.1 + (1 : Int)) + (1 : Int)), (((nth (t := TStep) y_6_5 i0).2).2).2)))); (0 ≤ i0) ∧ (i0 < (x.length : Int)) ∧ (let y_10_5 : (List (TStep).D) := (y_8_5.set i0.toNat ((nth (t := TStep) y_8_5 i0).1, (((nth (t := TStep) y_8_5 i0).2).1, ((((nth (t := TStep) y_8_5 i0).2).2).1, (wrap64 (wrap64 (wrap64 (v0.1 + (1 : Int)) + (1 : Int)) + (1 : Int)), ((((nth (t := TStep) y_8_5 i0).2).2).2).2))))); (0 ≤ i0) ∧ (i0 < (x.length : Int)) ∧ ((((((((nth (t := TStep) y_10_5 i0).2).2).2).2).1).length : Int) = (((((((nth (t := TStep) y_10_5 i0).2).2).2).2).1).length : Int)) ∧ (Ln (Ty.sl TPart) ((((((nth (t := TStep) y_10_5 i0).2).2).2).2).1)) ∧ (0 ≤ (wrap64 (wrap64 (wrap64 (wrap64 (v0.1 + (1 : Int)) + (1 : Int)) + (1 : Int)) + (1 : Int)))) ∧ ((wrap64 (wrap64 (wrap64 (wrap64 (v0.1 + (1 : Int)) + (1 : Int)) + (1 : Int)) + (1 : Int))) + (M.count (Ty.sl TPart) ((((((nth (t := TStep) y_10_5 i0).2).2).2).2).1) : Int) ≤ M.big) ∧ (∀ r_12_6 : (List (TPart).D) × Int, r_12_6 = ((M.mark (Ty.sl TPart) ((((((nth (t := TStep) y_10_5 i0).2).2).2).2).1) (wrap64 (wrap64 (wrap64 (wrap64 (v0.1 + (1 : Int)) + (1 : Int)) + (1 : Int)) + (1 : Int))), (wrap64 (wrap64 (wrap64 (wrap64 (v0.1 + (1 : Int)) + (1 : Int)) + (1 : Int)) + (1 : Int))) + (M.count (Ty.sl TPart) ((((((nth (t := TStep) y_10_5 i0).2).2).2).2).1) : Int))) → (r_12_6.1.length = ((((((nth (t := TStep) y_10_5 i0).2).2).2).2).1).length) ∧ (0 ≤ i0) ∧ (i0 < (x.length : Int)) ∧ (((((((((nth (t := TStep) (y_10_5.set i0.toNat ((nth (t := TStep) y_10_5 i0).1, (((nth (t := TStep) y_10_5 i0).2).1, ((((nth (t := TStep) y_10_5 i0).2).2).1, (((((nth (t := TStep) y_10_5 i0).2).2).2).1, (r_12_6.1, (((((nth (t := TStep) y_10_5 i0).2).2).2).2).2)))))) i0).2).2).2).2).2).1).length : Int) = ((((((((nth (t := TStep) (y_10_5.set i0.toNat ((nth (t := TStep) y_10_5 i0).1, (((nth (t := TStep) y_10_5 i0).2).1, ((((nth (t := TStep) y_10_5 i0).2).2).1, (((((nth (t := TStep) y_10_5 i0).2).2).2).1, (r_12_6.1, (((((nth (t := TStep) y_10_5 i0).2).2).2).2).2)))))) i0).2).2).2).2).2).1).length : Int)) ∧ (Ln (Ty.sl TInt) (((((((nth (t := TStep) (y_10_5.set i0.toNat ((nth (t := TStep) y_10_5 i0).1, (((nth (t := TStep) y_10_5 i0).2).1, ((((nth (t := TStep) y_10_5 i0).2).2).1, (((((nth (t := TStep) y_10_5 i0).2).2).2).1, (r_12_6.1, (((((nth (t := TStep) y_10_5 i0).2).2).2).2).2)))))) i0).2).2).2).2).2).1)) ∧ (0 ≤ r_12_6.2) ∧ (r_12_6.2 + (M.count (Ty.sl TInt) (((((((nth (t := TStep) (y_10_5.set i0.toNat ((nth (t := TStep) y_10_5 i0).1, (((nth (t := TStep) y_10_5 i0).2).1, ((((nth (t := TStep) y_10_5 i0).2).2).1, (((((nth (t := TStep) y_10_5 i0).2).2).2).1, (r_12_6.1, (((((nth (t := TStep) y_10_5 i0).2).2).2).2).2)))))) i0).2).2).2).2).2).1) : Int) ≤ M.big) ∧ (∀ r_13_6 : (List Int) × Int, r_13_6 = ((M.mark (Ty.sl TInt) (((((((nth (t := TStep) (y_10_5.set i0.toNat ((nth (t := TStep) y_10_5 i0).1, (((nth (t := TStep) y_10_5 i0).2).1, ((((nth (t := TStep) y_10_5 i0).2).2).1, (((((nth (t := TStep) y_10_5 i0).2).2).2).1, (r_12_6.1, (((((nth (t := TStep) y_10_5 i0).2).2).2).2).2)))))) i0).2).2).2).2).2).1) r_12_6.2, r_12_6.2 + (M.count (Ty.sl TInt) (((((((nth (t := TStep) (y_10_5.set i0.toNat ((nth (t := TStep) y_10_5 i0).1, (((nth (t := TStep) y_10_5 i0).2).1, ((((nth (t := TStep) y_10_5 i0).2).2).1, (((((nth (t := TStep) y_10_5 i0).2).2).2).1, (r_12_6.1, (((((nth (t := TStep) y_10_5 i0).2).2).2).2).2)))))) i0).2).2).2).2).2).1) : Int))) → (r_13_6.1.length = (((((((nth (t := TStep) (y_10_5.set i0.toNat ((nth (t := TStep) y_10_5 i0).1, (((nth (t := TStep) y_10_5 i0).2).1, ((((nth (t := TStep) y_10_5 i0).2).2).1, (((((nth (t := TStep) y_10_5 i0).2).2).2).1, (r_12_6.1, (((((nth (t := TStep) y_10_5 i0).2).2).2).2).2)))))) i0).2).2).2).2).2).1).length) ∧ (∃ m_, m_ < m ∧ (L17 x k) 0 m_ (⟨[(0, .clp 1000000 (x.length : Int)), (1, .data TInt r_13_6.2), (5, .data TInt (wrap64 (i0 + (1 : Int))))], [(1000000, .arr true TStep ((y_10_5.set i0.toNat ((nth (t := TStep) y_10_5 i0).1, (((nth (t := TStep) y_10_5 i0).2).1, ((((nth (t := TStep) y_10_5 i0).2).2).1, (((((nth (t := TStep) y_10_5 i0).2).2).2).1, (r_12_6.1, (((((nth (t := TStep) y_10_5 i0).2).2).2).2).2)))))).set i0.toNat ((nth (t := TStep) (y_10_5.set i0.toNat ((nth (t := TStep) y_10_5 i0).1, (((nth (t := TStep) y_10_5 i0).2).1, ((((nth (t := TStep) y_10_5 i0).2).2).1, (((((nth (t := TStep) y_10_5 i0).2).2).2).1, (r_12_6.1, (((((nth (t := TStep) y_10_5 i0).2).2).2).2).2)))))) i0).1, (((nth (t := TStep) (y_10_5.set i0.toNat ((nth (t := TStep) y_10_5 i0).1, (((nth (t := TStep) y_10_5 i0).2).1, ((((nth (t := TStep) y_10_5 i0).2).2).1, (((((nth (t := TStep) y_10_5 i0).2).2).2).1, (r_12_6.1, (((((nth (t := TStep) y_10_5 i0).2).2).2).2).2)))))) i0).2).1, ((((nth (t := TStep) (y_10_5.set i0.toNat ((nth (t := TStep) y_10_5 i0).1, (((nth (t := TStep) y_10_5 i0).2).1, ((((nth (t := TStep) y_10_5 i0).2).2).1, (((((nth (t := TStep) y_10_5 i0).2).2).2).1, (r_12_6.1, (((((nth (t := TStep) y_10_5 i0).2).2).2).2).2)))))) i0).2).2).1, (((((nth (t := TStep) (y_10_5.set i0.toNat ((nth (t := TStep) y_10_5 i0).1, (((nth (t := TStep) y_10_5 i0).2).1, ((((nth (t := TStep) y_10_5 i0).2).2).1, (((((nth (t := TStep) y_10_5 i0).2).2).2).1, (r_12_6.1, (((((nth (t := TStep) y_10_5 i0).2).2).2).2).2)))))) i0).2).2).2).1, ((((((nth (t := TStep) (y_10_5.set i0.toNat ((nth (t := TStep) y_10_5 i0).1, (((nth (t := TStep) y_10_5 i0).2).1, ((((nth (t := TStep) y_10_5 i0).2).2).1, (((((nth (t := TStep) y_10_5 i0).2).2).2).1, (r_12_6.1, (((((nth (t := TStep) y_10_5 i0).2).2).2).2).2)))))) i0).2).2).2).2).1, (r_13_6.1, ()))))))))]⟩ : St) K))))))) (K (.exit 0) (⟨[(1, .data TInt v0.1)], [(1000000, .arr true TStep v0.2)]⟩ : St))) := by kernel_rfl
theorem con17_ok : ConOk P 17 c17 := by
 refine con_okR (fn := f17) (code := bodyOf f17) (tab_ok tab_check cmp_check) consOk17 mixed func17 rfl rfl fun args hp K h0 => ?_
 unfold c17 at h0
 dsimp only at h0
 obtain ⟨x, rfl, h00⟩ := hpN_elim (n := 1000000) (d := true) (t := TStep) h0
 obtain ⟨a0, a1, rfl, _, h1⟩ := args2_elim h00
 obtain ⟨rfl, h2⟩ := withC_elim h1
 obtain ⟨k, rfl, h3⟩ := withD_elim h2
 obtain ⟨h_x, p0, p1, hK⟩ := h3
 have h : ok (F.laws_markStepS x k) (fun r => K (.data TInt r.2) [(1000000, .arr true TStep r.1)]) := ok_of_eq (F.laws_markStepS_eq x k h_x p0 p1) (hK _ rfl)
 refine ⟨⟨show (2 : Nat) ≤ 55 by decide, show (2 : Nat) ≤ 1000000 by decide⟩, ann17, (L17 x k), .raw, (loopsN1 (i0 := 0) (by kernel_rfl) ?_), ?_⟩
 ·clear h
  intro m_ s_ K_ h
  obtain ⟨hc0, i0, v0, rfl, hl0, rfl, hv0, h⟩ := (show LP17_0 x k m_ s_ K_ from h)
  rw [lvc17_0 x k i0 v0 _ K_]
  exact (loopI_step h (fun ht0 h => ⟨hl0, ⟨ht0, ⟨hl0, ⟨ht0, (let y_6_5 : (List (TStep).D) := ((v0.2.set i0.toNat (v0.1, (nth (t := TStep) v0.2 i0).2)).set i0.toNat ((nth (t := TStep) (v0.2.set i0.toNat (v0.1, (nth (t := TStep) v0.2 i0).2)) i0).1, (wrap64 (v0.1 + (1 : Int)), ((nth (t := TStep) (v0.2.set i0.toNat (v0.1, (nth (t := TStep) v0.2 i0).2)) i0).2).2))); have h := ok_let h y_6_5 rfl; ⟨hl0, ⟨ht0, (let y_8_5 : (List (TStep).D) := (y_6_5.set i0.toNat ((nth (t := TStep) y_6_5 i0).1, (((nth (t := TStep) y_6_5 i0).2).1, (wrap64 (wrap64 (v0.1 + (1 : Int)) + (1 : Int)), (((nth (t := TStep) y_6_5 i0).2).2).2)))); have h := ok_let h y_8_5 rfl; ⟨hl0, ⟨ht0, (let y_10_5 : (List (TStep).D) := (y_8_5.set i0.toNat ((nth (t := TStep) y_8_5 i0).1, (((nth (t := TStep) y_8_5 i0).2).1, ((((nth (t := TStep) y_8_5 i0).2).2).1, (wrap64 (wrap64 (wrap64 (v0.1 + (1 : Int)) + (1 : Int)) + (1 : Int)), ((((nth (t := TStep) y_8_5 i0).2).2).2).2))))); have h := ok_let h y_10_5 rfl; ⟨hl0, ⟨ht0, ⟨rfl, ⟨(ok_guard h).1, have h := (ok_guard h).2; ⟨(ok_guard h).1, have h := (ok_guard h).2; ⟨(ok_guard h).1, have h := (ok_guard h).2; (fun r_12_6 e_r_12_6 => have h := ok_let h r_12_6 e_r_12_6; ⟨(by rw [e_r_12_6]; exact (M.mark_len TPart _ _)), ⟨hl0, ⟨ht0, ⟨rfl, ⟨(ok_guard h).1, have h := (ok_guard h).2; ⟨(ok_guard h).1, have h := (ok_guard h).2; ⟨(ok_guard h).1, have h := (ok_guard h).2; (fun r_13_6 e_r_13_6 => have h := ok_let h r_13_6 e_r_13_6; ⟨(by rw [e_r_13_6]; exact (M.mark_len TInt _ _)), (loopI_next (fun m hm => (show LP17_0 x k m _ _ from ⟨hc0, hm⟩)) (r_13_6.2, ((y_10_5.set i0.toNat ((nth (t := TStep) y_10_5 i0).1, (((nth (t := TStep) y_10_5 i0).2).1, ((((nth (t := TStep) y_10_5 i0).2).2).1, (((((nth (t := TStep) y_10_5 i0).2).2).2).1, (r_12_6.1, (((((nth (t := TStep) y_10_5 i0).2).2).2).2).2)))))).set i0.toNat ((nth (t := TStep) (y_10_5.set i0.toNat ((nth (t := TStep) y_10_5 i0).1, (((nth (t := TStep) y_10_5 i0).2).1, ((((nth (t := TStep) y_10_5 i0).2).2).1, (((((nth (t := TStep) y_10_5 i0).2).2).2).1, (r_12_6.1, (((((nth (t := TStep) y_10_5 i0).2).2).2).2).2)))))) i0).1, (((nth (t := TStep) (y_10_5.set i0.toNat ((nth (t := TStep) y_10_5 i0).1, (((nth (t := TStep) y_10_5 i0).2).1, ((((nth (t := TStep) y_10_5 i0).2).2).1, (((((nth (t := TStep) y_10_5 i0).2).2).2).1, (r_12_6.1, (((((nth (t := TStep) y_10_5 i0).2).2).2).2).2)))))) i0).2).1, ((((nth (t := TStep) (y_10_5.set i0.toNat ((nth (t := TStep) y_10_5 i0).1, (((nth (t := TStep) y_10_5 i0).2).1, ((((nth (t := TStep) y_10_5 i0).2).2).1, (((((nth (t := TStep) y_10_5 i0).2).2).2).1, (r_12_6.1, (((((nth (t := TStep) y_10_5 i0).2).2).2).2).2)))))) i0).2).2).1, (((((nth (t := TStep) (y_10_5.set i0.toNat ((nth (t := TStep) y_10_5 i0).1, (((nth (t := TStep) y_10_5 i0).2).1, ((((nth (t := TStep) y_10_5 i0).2).2).1, (((((nth (t := TStep) y_10_5 i0).2).2).2).1, (r_12_6.1, (((((nth (t := TStep) y_10_5 i0).2).2).2).2).2)))))) i0).2).2).2).1, ((((((nth (t := TStep) (y_10_5.set i0.toNat ((nth (t := TStep) y_10_5 i0).1, (((nth (t := TStep) y_10_5 i0).2).1, ((((nth (t := TStep) y_10_5 i0).2).2).1, (((((nth (t := TStep) y_10_5 i0).2).2).2).1, (r_12_6.1, (((((nth (t := TStep) y_10_5 i0).2).2).2).2).2)))))) i0).2).2).2).2).1, (r_13_6.1, ())))))))) rfl hl0 low0 ht0 (sm_len h_x) trivial (ok_ret h :))⟩)⟩⟩⟩⟩⟩⟩⟩)⟩⟩⟩⟩⟩⟩)⟩⟩)⟩⟩)⟩⟩⟩⟩) (fun h => (h trivial)))
 ·rw [vc17 x k K]
  exact (loopI_start (fun m hm => ⟨trivial, hm⟩) (0 : Int) (k, x) rfl (Int.natCast_nonneg 0) trivial (ok_then h (fun v0 h hv0 => (ok_ret h :)) (fun _ h => h.elim)))
def c48 : Con := ⟨[.dat (Ty.sl TPart), .dat TInt], fun args hp K => args2 (fun a0 a1 => withD (Ty.sl TPart) a0 fun x => withD TInt a1 fun k => (Ln (Ty.sl TPart) x) ∧ (0 ≤ k) ∧ (k + (M.count (Ty.sl TPart) x : Int) ≤ M.big) ∧ (M.mark (Ty.sl TPart) x k = x) ∧ K (.data TInt (k + (M.count (Ty.sl TPart) x : Int))) []) args hp, .bor⟩
def cons48 : Cons := [(94, c94)]
@[reducible] def C48 : Ctx := ⟨tab, fun t => memN t cmps, cons48, 62, [], 0, false⟩
theorem consOk48 : ConsOk P C48 := by
 refine consOk_cons (enter_ok (fn := f94) func94 (by kernel_rfl) rfl) con94_ok ?_
 exact consOk_nil
def ann48 : Nat → List Dir
 | 0 => [.keep [0, 1]]
 | 1 => [.keep [0, 1, 5]]
 | 2 => [.keep [0, 1, 5, 9]]
 | 3 => [.keep [0, 1, 5]]
 | 4 => [.keep [0, 1, 5, 18]]
 | 5 => [.keep [4]]
 | 6 => [.keep [0, 1, 5]]
 | 7 => [.keep [0, 1, 5, 27]]
 | 8 => [.keep [4]]
 | 9 => [.keep [0, 1, 5]]
 | 10 => [.keep [0, 1, 5, 37]]
 | 11 => [.keep [4]]
 | 12 => [.keep [0, 1, 5]]
 | 13 => [.keep [0, 1, 5, 47]]
 | 14 => [.keep [4]]
 | 15 => [.keep [0, 1, 5]]
 | 16 => [.keep [0, 1, 5, 58]]
 | 17 => [.keep [4]]
 | 18 => [.keep [0, 1, 5]]
 | 19 => [.keep [4]]
 | 100000 => [.keep [1]]
 | _ => []
@[reducible] def LP48_0 (x : (List (TPart).D)) (k : Int) (m : Nat) (st_ : St) (K : X → St → Prop) : Prop := (True) ∧ LoopE (t := TPart) (fun (i0 : Int) (v0 : Int) => (⟨[(0, .data (Ty.sl TPart) x), (1, .data TInt v0), (5, .data TInt i0)], []⟩ : St)) x (F.laws_heldPartS_l0 x k) (fun v0 : Int => True) (outD (fun v0 : Int => True → K (.exit 0) (⟨[(1, .data TInt v0)], []⟩ : St)) (fun q0 : Unit => K .ret (⟨[(4, .data TInt (-1 : Int))], []⟩ : St))) m st_
def L48 (x : (List (TPart).D)) (k : Int) : Loops := fun id m st_ K => match id with
 | 0 => LP48_0 x k m st_ K
 | _ => False
theorem vc48 (x : (List (TPart).D)) (k : Int) (K : AV → Hp → Prop) : awp C48 (L48 x k) ann48 (bodyOf f48) ⟨argEnv 0 [.data (Ty.sl TPart) x, .data TInt k], []⟩ (outK tab false f48.results.toList (hasBox []) (resK (.dat TInt) K)) =
 ((∃ m_, (True) ∧ LoopE (t := TPart) (fun (i0 : Int) (v0 : Int) => (⟨[(0, .data (Ty.sl TPart) x), (1, .data TInt v0), (5, .data TInt i0)], []⟩ : St)) x (F.laws_heldPartS_l0 x k) (fun v0 : Int => True) (outD (fun v0 : Int => True → K (.data TInt v0) []) (fun q0 : Unit => K (.data TInt (-1 : Int)) [])) m_ (⟨[(0, .data (Ty.sl TPart) x), (1, .data TInt k), (5, .data TInt (0 : Int))], []⟩ : St))) := by kernel_rfl
theorem lvc48_0 (x : (List (TPart).D)) (k : Int)  (i0 : Int) (v0 : Int) (m : Nat) (K : X → St → Prop) : awp C48 (L48 x k) ann48 (loopAt (bodyOf f48) 0) (⟨[(0, .data (Ty.sl TPart) x), (1, .data TInt v0), (5, .data TInt i0)], []⟩ : St) (thenW (fun s' => ∃ m', m' < m ∧ (L48 x k) 0 m' s' K) (exitN 0 (ann48 (behind 0)) K)) =
 (cond (decide (i0 < (x.length : Int))) ((0 ≤ i0) ∧ (i0 < (x.length : Int)) ∧ cond (!decide ((nth (t := TPart) x i0).1 = v0)) (K .ret (⟨[(4, .data TInt (-1 : Int))], []⟩ : St)) ((0 ≤ i0) ∧ (i0 < (x.length : Int)) ∧ cond (!decide (((nth (t := TPart) x i0).2).1 = wrap64 (v0 + (1 : Int)))) (K .ret (⟨[(4, .data TInt (-1 : Int))], []⟩ : St)) ((0 ≤ i0) ∧ (i0 < (x.length : Int)) ∧ cond (!decide (((((nth (t := TPart) x i0).2).2).1).1 = wrap64 (wrap64 (v0 + (1 : Int)) + (1 : Int)))) (K .ret (⟨[(4, .data TInt (-1 : Int))], []⟩ : St)) ((0 ≤ i0) ∧ (i0 < (x.length : Int)) ∧ cond (!decide ((((((nth (t := TPart) x i0).2).2).1).2).1 = wrap64 (wrap64 (wrap64 (v0 + (1 : Int)) + (1 : Int)) + (1 : Int)))) (K .ret (⟨[(4, .data TInt (-1 : Int))], []⟩ : St)) ((0 ≤ i0) ∧ (i0 < (x.length : Int)) ∧ ((wrap64 (wrap64 (wrap64 (wrap64 (v0 + (1 : Int)) + (1 : Int)) + (1 : Int)) + (1 : Int))) ≤ M.big) ∧ (∀ r_16_7 : ByteArray, r_16_7 = (M.markText (wrap64 (wrap64 (wrap64 (wrap64 (v0 + (1 : Int)) + (1 : Int)) + (1 : Int)) + (1 : Int)))) → cond (!decide (((((((nth (t := TPart) x i0).2).2).1).2).2).1 = r_16_7)) (K .ret (⟨[(4, .data TInt (-1 : Int))], []⟩ : St)) ((∃ m_, m_ < m ∧ (L48 x k) 0 m_ (⟨[(0, .data (Ty.sl TPart) x), (1, .data TInt (wrap64 (wrap64 (wrap64 (wrap64 (wrap64 (v0 + (1 : Int)) + (1 : Int)) + (1 : Int)) + (1 : Int)) + (1 : Int)))), (5, .data TInt (wrap64 (i0 + (1 : Int))))], []⟩ : St) K)))))))) (K (.exit 0) (⟨[(1, .data TInt v0)], []⟩ : St))) := by kernel_rfl
theorem con48_ok : ConOk P 48 c48 := by
 refine con_okR (fn := f48) (code := bodyOf f48) (tab_ok tab_check cmp_check) consOk48 mixed func48 rfl rfl fun args hp K h0 => ?_
 obtain ⟨a0, a1, rfl, rfl, h1⟩ := args2_elim h0
 obtain ⟨x, rfl, h2⟩ := withD_elim h1
 obtain ⟨k, rfl, h3⟩ := withD_elim h2
 obtain ⟨h_x, p0, p1, p2, hK⟩ := h3
 have h : ok (F.laws_heldPartS x k) (fun r => K (.data TInt r) []) := ok_of_eq (F.laws_heldPartS_eq x k h_x p0 p1 p2) hK
 refine ⟨⟨show (2 : Nat) ≤ 62 by decide, show (2 : Nat) ≤ 1000000 by decide⟩, ann48, (L48 x k), (.dat TInt), (loopsN1 (i0 := 0) (by kernel_rfl) ?_), ?_⟩
 ·clear h
  intro m_ s_ K_ h
  obtain ⟨hc0, i0, v0, rfl, hl0, rfl, hv0, h⟩ := (show LP48_0 x k m_ s_ K_ from h)
  rw [lvc48_0 x k i0 v0 _ K_]
  exact (loopE_step (t := TPart) hl0 h (fun ht0 h => ⟨hl0, ⟨ht0, (ok_cond h (fun b_19 h => (ok_ret h :)) (fun b_19 h => ⟨hl0, ⟨ht0, (ok_cond h (fun b_20 h => (ok_ret h :)) (fun b_20 h => ⟨hl0, ⟨ht0, (ok_cond h (fun b_21 h => (ok_ret h :)) (fun b_21 h => ⟨hl0, ⟨ht0, (ok_cond h (fun b_22 h => (ok_ret h :)) (fun b_22 h => ⟨hl0, ⟨ht0, ⟨(ok_guard h).1, have h := (ok_guard h).2; (fun r_16_7 e_r_16_7 => have h := ok_let h r_16_7 e_r_16_7; (ok_cond h (fun b_24 h => (ok_ret h :)) (fun b_24 h => (loopE_next (t := TPart) (fun m hm => (show LP48_0 x k m _ _ from ⟨hc0, hm⟩)) (wrap64 (wrap64 (wrap64 (wrap64 (wrap64 (v0 + (1 : Int)) + (1 : Int)) + (1 : Int)) + (1 : Int)) + (1 : Int))) rfl hl0 ht0 (sm_len h_x) trivial (ok_ret h :)))))⟩⟩⟩))⟩⟩))⟩⟩))⟩⟩))⟩⟩) (fun h => (h trivial)))
 ·rw [vc48 x k K]
  exact (loopE_start (t := TPart) (fun m hm => ⟨trivial, hm⟩) k rfl trivial (ok_then h (fun v0 h hv0 => (ok_ret h :)) (fun q0 h => (ok_ret h :))))
def c49 : Con := ⟨[.dat (Ty.sl TInt), .dat TInt], fun args hp K => args2 (fun a0 a1 => withD (Ty.sl TInt) a0 fun x => withD TInt a1 fun k => (Ln (Ty.sl TInt) x) ∧ (0 ≤ k) ∧ (k + (M.count (Ty.sl TInt) x : Int) ≤ M.big) ∧ (M.mark (Ty.sl TInt) x k = x) ∧ K (.data TInt (k + (M.count (Ty.sl TInt) x : Int))) []) args hp, .bor⟩
def cons49 : Cons := []
@[reducible] def C49 : Ctx := ⟨tab, fun t => memN t cmps, cons49, 21, [], 0, false⟩
theorem consOk49 : ConsOk P C49 := by
 exact consOk_nil
def ann49 : Nat → List Dir
 | 0 => [.keep [0, 1]]
 | 1 => [.keep [0, 1, 5]]
 | 2 => [.keep [0, 1, 5, 9]]
 | 3 => [.keep [0, 1, 5]]
 | 4 => [.keep [0, 1, 5, 17]]
 | 5 => [.keep [4]]
 | 6 => [.keep [0, 1, 5]]
 | 7 => [.keep [4]]
 | 100000 => [.keep [1]]
 | _ => []
@[reducible] def LP49_0 (x : (List Int)) (k : Int) (m : Nat) (st_ : St) (K : X → St → Prop) : Prop := (True) ∧ LoopE (t := TInt) (fun (i0 : Int) (v0 : Int) => (⟨[(0, .data (Ty.sl TInt) x), (1, .data TInt v0), (5, .data TInt i0)], []⟩ : St)) x (F.laws_heldIntS_l0 x k) (fun v0 : Int => True) (outD (fun v0 : Int => True → K (.exit 0) (⟨[(1, .data TInt v0)], []⟩ : St)) (fun q0 : Unit => K .ret (⟨[(4, .data TInt (-1 : Int))], []⟩ : St))) m st_
def L49 (x : (List Int)) (k : Int) : Loops := fun id m st_ K => match id with
 | 0 => LP49_0 x k m st_ K
 | _ => False
theorem vc49 (x : (List Int)) (k : Int) (K : AV → Hp → Prop) : awp C49 (L49 x k) ann49 (bodyOf f49) ⟨argEnv 0 [.data (Ty.sl TInt) x, .data TInt k], []⟩ (outK tab false f49.results.toList (hasBox []) (resK (.dat TInt) K)) =
 ((∃ m_, (True) ∧ LoopE (t := TInt) (fun (i0 : Int) (v0 : Int) => (⟨[(0, .data (Ty.sl TInt) x), (1, .data TInt v0), (5, .data TInt i0)], []⟩ : St)) x (F.laws_heldIntS_l0 x k) (fun v0 : Int => True) (outD (fun v0 : Int => True → K (.data TInt v0) []) (fun q0 : Unit => K (.data TInt (-1 : Int)) [])) m_ (⟨[(0, .data (Ty.sl TInt) x), (1, .data TInt k), (5, .data TInt (0 : Int))], []⟩ : St))) := by kernel_rfl
theorem lvc49_0 (x : (List Int)) (k : Int)  (i0 : Int) (v0 : Int) (m : Nat) (K : X → St → Prop) : awp C49 (L49 x k) ann49 (loopAt (bodyOf f49) 0) (⟨[(0, .data (Ty.sl TInt) x), (1, .data TInt v0), (5, .data TInt i0)], []⟩ : St) (thenW (fun s' => ∃ m', m' < m ∧ (L49 x k) 0 m' s' K) (exitN 0 (ann49 (behind 0)) K)) =
 (cond (decide (i0 < (x.length : Int))) ((0 ≤ i0) ∧ (i0 < (x.length : Int)) ∧ cond (!decide ((nth (t := TInt) x i0) = v0)) (K .ret (⟨[(4, .data TInt (-1 : Int))], []⟩ : St)) ((∃ m_, m_ < m ∧ (L49 x k) 0 m_ (⟨[(0, .data (Ty.sl TInt) x), (1, .data TInt (wrap64 (v0 + (1 : Int)))), (5, .data TInt (wrap64 (i0 + (1 : Int))))], []⟩ : St) K))) (K (.exit 0) (⟨[(1, .data TInt v0)], []⟩ : St))) := by kernel_rfl
theorem con49_ok : ConOk P 49 c49 := by
 refine con_okR (fn := f49) (code := bodyOf f49) (tab_ok tab_check cmp_check) consOk49 mixed func49 rfl rfl fun args hp K h0 => ?_
 obtain ⟨a0, a1, rfl, rfl, h1⟩ := args2_elim h0
 obtain ⟨x, rfl, h2⟩ := withD_elim h1
 obtain ⟨k, rfl, h3⟩ := withD_elim h2
 obtain ⟨h_x, p0, p1, p2, hK⟩ := h3
 have h : ok (F.laws_heldIntS x k) (fun r => K (.data TInt r) []) := ok_of_eq (F.laws_heldIntS_eq x k h_x p0 p1 p2) hK
 refine ⟨⟨show (2 : Nat) ≤ 21 by decide, show (2 : Nat) ≤ 1000000 by decide⟩, ann49, (L49 x k), (.dat TInt), (loopsN1 (i0 := 0) (by kernel_rfl) ?_), ?_⟩
 ·clear h
  intro m_ s_ K_ h
  obtain ⟨hc0, i0, v0, rfl, hl0, rfl, hv0, h⟩ := (show LP49_0 x k m_ s_ K_ from h)
  rw [lvc49_0 x k i0 v0 _ K_]
  exact (loopE_step (t := TInt) hl0 h (fun ht0 h => ⟨hl0, ⟨ht0, (ok_cond h (fun b_9 h => (ok_ret h :)) (fun b_9 h => (loopE_next (t := TInt) (fun m hm => (show LP49_0 x k m _ _ from ⟨hc0, hm⟩)) (wrap64 (v0 + (1 : Int))) rfl hl0 ht0 (sm_len h_x) trivial (ok_ret h :))))⟩⟩) (fun h => (h trivial)))
 ·rw [vc49 x k K]
  exact (loopE_start (t := TInt) (fun m hm => ⟨trivial, hm⟩) k rfl trivial (ok_then h (fun v0 h hv0 => (ok_ret h :)) (fun q0 h => (ok_ret h :))))
def c18 : Con := ⟨[.dat (Ty.sl TStep), .dat TInt], fun args hp K => args2 (fun a0 a1 => withD (Ty.sl TStep) a0 fun x => withD TInt a1 fun k => (Ln (Ty.sl TStep) x) ∧ (0 ≤ k) ∧ (k + (M.count (Ty.sl TStep) x : Int) ≤ M.big) ∧ (M.mark (Ty.sl TStep) x k = x) ∧ K (.data TInt (k + (M.count (Ty.sl TStep) x : Int))) []) args hp, .bor⟩
def cons18 : Cons := [(48, c48), (49, c49)]
@[reducible] def C18 : Ctx := ⟨tab, fun t => memN t cmps, cons18, 67, [], 0, false⟩
theorem consOk18 : ConsOk P C18 := by
 refine consOk_cons (enter_ok (fn := f48) func48 (by kernel_rfl) rfl) con48_ok ?_
 refine consOk_cons (enter_ok (fn := f49) func49 (by kernel_rfl) rfl) con49_ok ?_
 exact consOk_nil
def ann18 : Nat → List Dir
 | 0 => [.keep [0, 1]]
 | 1 => [.keep [0, 1, 5]]
 | 2 => [.keep [0, 1, 5, 9]]
 | 3 => [.keep [0, 1, 5]]
 | 4 => [.keep [0, 1, 5, 18]]
 | 5 => [.keep [4]]
 | 6 => [.keep [0, 1, 5]]
 | 7 => [.keep [0, 1, 5, 27]]
 | 8 => [.keep [4]]
 | 9 => [.keep [0, 1, 5]]
 | 10 => [.keep [0, 1, 5, 36]]
 | 11 => [.keep [4]]
 | 12 => [.keep [0, 1, 5]]
 | 13 => [.keep [0, 1, 5, 45]]
 | 14 => [.keep [4]]
 | 15 => [.keep [0, 1, 5]]
 | 16 => [.keep [0, 1, 5]]
 | 17 => [.keep [0, 1, 5, 56]]
 | 18 => [.keep [4]]
 | 19 => [.keep [0, 1, 5]]
 | 20 => [.keep [0, 1, 5, 65]]
 | 21 => [.keep [4]]
 | 22 => [.keep [4]]
 | 100000 => [.keep [1]]
 | _ => []
@[reducible] def LP18_0 (x : (List (TStep).D)) (k : Int) (m : Nat) (st_ : St) (K : X → St → Prop) : Prop := (True) ∧ LoopE (t := TStep) (fun (i0 : Int) (v0 : Int) => (⟨[(0, .data (Ty.sl TStep) x), (1, .data TInt v0), (5, .data TInt i0)], []⟩ : St)) x (F.laws_heldStepS_l0 x k) (fun v0 : Int => True) (outD (fun v0 : Int => True → K (.exit 0) (⟨[(1, .data TInt v0)], []⟩ : St)) (fun q0 : Unit => K .ret (⟨[(4, .data TInt (-1 : Int))], []⟩ : St))) m st_
def L18 (x : (List (TStep).D)) (k : Int) : Loops := fun id m st_ K => match id with
 | 0 => LP18_0 x k m st_ K
 | _ => False
theorem vc18 (x : (List (TStep).D)) (k : Int) (K : AV → Hp → Prop) : awp C18 (L18 x k) ann18 (bodyOf f18) ⟨argEnv 0 [.data (Ty.sl TStep) x, .data TInt k], []⟩ (outK tab false f18.results.toList (hasBox []) (resK (.dat TInt) K)) =
 ((∃ m_, (True) ∧ LoopE (t := TStep) (fun (i0 : Int) (v0 : Int) => (⟨[(0, .data (Ty.sl TStep) x), (1, .data TInt v0), (5, .data TInt i0)], []⟩ : St)) x (F.laws_heldStepS_l0 x k) (fun v0 : Int => True) (outD (fun v0 : Int => True → K (.data TInt v0) []) (fun q0 : Unit => K (.data TInt (-1 : Int)) [])) m_ (⟨[(0, .data (Ty.sl TStep) x), (1, .data TInt k), (5, .data TInt (0 : Int))], []⟩ : St))) := by kernel_rfl
theorem lvc18_0 (x : (List (TStep).D)) (k : Int)  (i0 : Int) (v0 : Int) (m : Nat) (K : X → St → Prop) : awp C18 (L18 x k) ann18 (loopAt (bodyOf f18) 0) (⟨[(0, .data (Ty.sl TStep) x), (1, .data TInt v0), (5, .data TInt i0)], []⟩ : St) (thenW (fun s' => ∃ m', m' < m ∧ (L18 x k) 0 m' s' K) (exitN 0 (ann18 (behind 0)) K)) =
 (cond (decide (i0 < (x.length : Int))) ((0 ≤ i0) ∧ (i0 < (x.length : Int)) ∧ cond (!decide ((nth (t := TStep) x i0).1 = v0)) (K .ret (⟨[(4, .data TInt (-1 : Int))], []⟩ : St)) ((0 ≤ i0) ∧ (i0 < (x.length : Int)) ∧ cond (!decide (((nth (t := TStep) x i0).2).1 = wrap64 (v0 + (1 : Int)))) (K .ret (⟨[(4, .data TInt (-1 : Int))], []⟩ : St)) ((0 ≤ i0) ∧ (i0 < (x.length : Int)) ∧ cond (!decide ((((nth (t := TStep) x i0).2).2).1 = wrap64 (wrap64 (v0 + (1 : Int)) + (1 : Int)))) (K .ret (⟨[(4, .data TInt (-1 : Int))], []⟩ : St)) ((0 ≤ i0) ∧ (i0 < (x.length : Int)) ∧ cond (!decide (((((nth (t := TStep) x i0).2).2).2).1 = wrap64 (wrap64 (wrap64 (v0 + (1 : Int)) + (1 : Int)) + (1 : Int)))) (K .ret (⟨[(4, .data TInt (-1 : Int))], []⟩ : St)) ((0 ≤ i0) ∧ (i0 < (x.length : Int)) ∧ (Ln (Ty.sl TPart) ((((((nth (t := TStep) x i0).2).2).2).2).1)) ∧ (0 ≤ (wrap64 (wrap64 (wrap64 (wrap64 (v0 + (1 : Int)) + (1 : Int)) + (1 : Int)) + (1 : Int)))) ∧ ((wrap64 (wrap64 (wrap64 (wrap64 (v0 + (1 : Int)) + (1 : Int)) + (1 : Int)) + (1 : Int))) + (M.count (Ty.sl TPart) ((((((nth (t := TStep) x i0).2).2).2).2).1) : Int) ≤ M.big) ∧ (M.mark (Ty.sl TPart) ((((((nth (t := TStep) x i0).2).2).2).2).1) (wrap64 (wrap64 (wrap64 (wrap64 (v0 + (1 : Int)) + (1 : Int)) + (1 : Int)) + (1 : Int))) = ((((((nth (t := TStep) x i0).2).2).2).2).1)) ∧ cond (decide (((wrap64 (wrap64 (wrap64 (wrap64 (v0 + (1 : Int)) + (1 : Int)) + (1 : Int)) + (1 : Int))) + (M.count (Ty.sl TPart) ((((((nth (t := TStep) x i0).2).2).2).2).1) : Int)) < (0 : Int))) (K .ret (⟨[(4, .data TInt (-1 : Int))], []⟩ : St)) ((0 ≤ i0) ∧ (i0 < (x.length : Int)) ∧ (Ln (Ty.sl TInt) (((((((nth (t := TStep) x i0).2).2).2).2).2).1)) ∧ (0 ≤ ((wrap64 (wrap64 (wrap64 (wrap64 (v0 + (1 : Int)) + (1 : Int)) + (1 : Int)) + (1 : Int))) + (M.count (Ty.sl TPart) ((((((nth (t := TStep) x i0).2).2).2).2).1) : Int))) ∧ (((wrap64 (wrap64 (wrap64 (wrap64 (v0 + (1 : Int)) + (1 : Int)) + (1 : Int)) + (1 : Int))) + (M.count (Ty.sl TPart) ((((((nth (t := TStep) x i0).2).2).2).2).1) : Int)) + (M.count (Ty.sl TInt) (((((((nth (t := TStep) x i0).2).2).2).2).2).1) : Int) ≤ M.big) ∧ (M.mark (Ty.sl TInt) (((((((nth (t := TStep) x i0).2).2).2).2).2).1) ((wrap64 (wrap64 (wrap64 (wrap64 (v0 + (1 : Int)) + (1 : Int)) + (1 : Int)) + (1 : Int))) + (M.count (Ty.sl TPart) ((((((nth (t := TStep) x i0).2).2).2).2).1) : Int)) = (((((((nth (t := TStep) x i0).2).2).2).2).2).1)) ∧ cond (decide ((((wrap64 (wrap64 (wrap64 (wrap64 (v0 + (1 : Int)) + (1 : Int)) + (1 : Int)) + (1 : Int))) + (M.count (Ty.sl TPart) ((((((nth (t := TStep) x i0).2).2).2).2).1) : Int)) + (M.count (Ty.sl TInt) (((((((nth (t := TStep) x i0).2).2).2).2).2).1) : Int)) < (0 : Int))) (K .ret (⟨[(4, .data TInt (-1 : Int))], []⟩ : St)) ((∃ m_, m_ < m ∧ (L18 x k) 0 m_ (⟨[(0, .data (Ty.sl TStep) x), (1, .data TInt (((wrap64 (wrap64 (wrap64 (wrap64 (v0 + (1 : Int)) + (1 : Int)) + (1 : Int)) + (1 : Int))) + (M.count (Ty.sl TPart) ((((((nth (t := TStep) x i0).2).2).2).2).1) : Int)) + (M.count (Ty.sl TInt) (((((((nth (t := TStep) x i0).2).2).2).2).2).1) : Int))), (5, .data TInt (wrap64 (i0 + (1 : Int))))], []⟩ : St) K)))))))) (K (.exit 0) (⟨[(1, .data TInt v0)], []⟩ : St))) := by kernel_rfl
theorem con18_ok : ConOk P 18 c18 := by
 refine con_okR (fn := f18) (code := bodyOf f18) (tab_ok tab_check cmp_check) consOk18 mixed func18 rfl rfl fun args hp K h0 => ?_
 obtain ⟨a0, a1, rfl, rfl, h1⟩ := args2_elim h0
 obtain ⟨x, rfl, h2⟩ := withD_elim h1
 obtain ⟨k, rfl, h3⟩ := withD_elim h2
 obtain ⟨h_x, p0, p1, p2, hK⟩ := h3
 have h : ok (F.laws_heldStepS x k) (fun r => K (.data TInt r) []) := ok_of_eq (F.laws_heldStepS_eq x k h_x p0 p1 p2) hK
 refine ⟨⟨show (2 : Nat) ≤ 67 by decide, show (2 : Nat) ≤ 1000000 by decide⟩, ann18, (L18 x k), (.dat TInt), (loopsN1 (i0 := 0) (by kernel_rfl) ?_), ?_⟩
 ·clear h
  intro m_ s_ K_ h
  obtain ⟨hc0, i0, v0, rfl, hl0, rfl, hv0, h⟩ := (show LP18_0 x k m_ s_ K_ from h)
  rw [lvc18_0 x k i0 v0 _ K_]
  exact (loopE_step (t := TStep) hl0 h (fun ht0 h => ⟨hl0, ⟨ht0, (ok_cond h (fun b_31 h => (ok_ret h :)) (fun b_31 h => ⟨hl0, ⟨ht0, (ok_cond h (fun b_32 h => (ok_ret h :)) (fun b_32 h => ⟨hl0, ⟨ht0, (ok_cond h (fun b_33 h => (ok_ret h :)) (fun b_33 h => ⟨hl0, ⟨ht0, (ok_cond h (fun b_34 h => (ok_ret h :)) (fun b_34 h => ⟨hl0, ⟨ht0, ⟨(sm_nth h_x i0).2.2.2.2.1, ⟨(ok_guard h).1, have h := (ok_guard h).2; ⟨(ok_guard h).1, have h := (ok_guard h).2; ⟨(ok_guard h).1, have h := (ok_guard h).2; (ok_cond h (fun b_38 h => (ok_ret h :)) (fun b_38 h => ⟨hl0, ⟨ht0, ⟨(sm_nth h_x i0).2.2.2.2.2.1, ⟨(ok_guard h).1, have h := (ok_guard h).2; ⟨(ok_guard h).1, have h := (ok_guard h).2; ⟨(ok_guard h).1, have h := (ok_guard h).2; (ok_cond h (fun b_42 h => (ok_ret h :)) (fun b_42 h => (loopE_next (t := TStep) (fun m hm => (show LP18_0 x k m _ _ from ⟨hc0, hm⟩)) (((wrap64 (wrap64 (wrap64 (wrap64 (v0 + (1 : Int)) + (1 : Int)) + (1 : Int)) + (1 : Int))) + (M.count (Ty.sl TPart) ((((((nth (t := TStep) x i0).2).2).2).2).1) : Int)) + (M.count (Ty.sl TInt) (((((((nth (t := TStep) x i0).2).2).2).2).2).1) : Int)) rfl hl0 ht0 (sm_len h_x) trivial (ok_ret h :))))⟩⟩⟩⟩⟩⟩))⟩⟩⟩⟩⟩⟩))⟩⟩))⟩⟩))⟩⟩))⟩⟩) (fun h => (h trivial)))
 ·rw [vc18 x k K]
  exact (loopE_start (t := TStep) (fun m hm => ⟨trivial, hm⟩) k rfl trivial (ok_then h (fun v0 h hv0 => (ok_ret h :)) (fun q0 h => (ok_ret h :))))
def c3 : Con := ⟨[.dat (Ty.sl TTable), .dat (Ty.sl TStep)], fun args hp K => args2 (fun a0 a1 => withD (Ty.sl TTable) a0 fun aTables => withD (Ty.sl TStep) a1 fun aPlan => (Ln (Ty.sl TTable) aTables) ∧ (Ln (Ty.sl TStep) aPlan) ∧ K (.data Ty.bool (true)) []) args hp, .plain⟩
def cons3 : Cons := [(8, c8), (9, c9), (10, c10), (11, c11), (12, c12), (13, c13), (14, c14), (15, c15), (16, c16), (17, c17), (18, c18)]
@[reducible] def C3 : Ctx := ⟨tab, fun t => memN t cmps, cons3, 92, [], 0, true⟩
theorem consOk3 : ConsOk P C3 := by
 refine consOk_cons (enter_ok (fn := f8) func8 (by kernel_rfl) rfl) con8_ok ?_
 refine consOk_cons (enter_ok (fn := f9) func9 (by kernel_rfl) rfl) con9_ok ?_
 refine consOk_cons (enter_ok (fn := f10) func10 (by kernel_rfl) rfl) con10_ok ?_
 refine consOk_cons (enter_ok (fn := f11) func11 (by kernel_rfl) rfl) con11_ok ?_
 refine consOk_cons (enter_ok (fn := f12) func12 (by kernel_rfl) rfl) con12_ok ?_
 refine consOk_cons (enter_ok (fn := f13) func13 (by kernel_rfl) rfl) con13_ok ?_
 refine consOk_cons (enter_ok (fn := f14) func14 (by kernel_rfl) rfl) con14_ok ?_
 refine consOk_cons (enter_ok (fn := f15) func15 (by kernel_rfl) rfl) con15_ok ?_
 refine consOk_cons (enter_ok (fn := f16) func16 (by kernel_rfl) rfl) con16_ok ?_
 refine consOk_cons (enter_ok (fn := f17) func17 (by kernel_rfl) rfl) con17_ok ?_
 refine consOk_cons (enter_ok (fn := f18) func18 (by kernel_rfl) rfl) con18_ok ?_
 exact consOk_nil
def ann3 : Nat → List Dir
 | 0 => [.keep [0, 1]]
 | 1 => [.keep [0, 1, 5]]
 | 2 => [.keep [0, 1, 5]]
 | 3 => [.keep [0, 1, 5, 18]]
 | 4 => [.keep [4]]
 | 5 => [.keep [0, 1, 5]]
 | 6 => [.keep [0, 1, 23]]
 | 7 => [.keep [4]]
 | 8 => [.keep [0, 1, 6]]
 | 9 => [.keep [0, 1, 6, 7]]
 | 10 => [.keep [0, 1, 6, 7, 8]]
 | 11 => [.keep [0, 1, 6, 7, 8, 9]]
 | 12 => [.keep [0, 1, 6, 7, 8, 9, 39]]
 | 13 => [.keep [4]]
 | 14 => [.keep [0, 1, 6, 7, 8, 9, 44]]
 | 15 => [.keep [4]]
 | 16 => [.keep [0, 1, 6, 7, 8, 9, 49]]
 | 17 => [.keep [4]]
 | 18 => [.keep [0, 1, 6, 7, 8, 9, 10]]
 | 19 => [.keep [0, 1, 6, 8, 9, 10]]
 | 20 => [.keep [0, 1, 6, 9, 10]]
 | 21 => [.keep [0, 1, 6, 9, 63]]
 | 22 => [.keep [4]]
 | 23 => [.keep [0, 1, 6, 9, 11]]
 | 24 => [.keep [0, 1, 6, 9, 11]]
 | 25 => [.keep [0, 1, 6, 9, 11, 12]]
 | 26 => [.keep [0, 1, 6, 9, 11, 12]]
 | 27 => [.keep [0, 1, 6, 9, 11, 12, 71]]
 | 28 => [.keep [4]]
 | 29 => [.keep [0, 1, 6, 9, 11, 74]]
 | 30 => [.keep [4]]
 | 31 => [.keep [6, 9, 11, 13]]
 | 32 => [.keep [9, 11, 83]]
 | 33 => [.keep [4]]
 | 34 => [.keep [9, 11, 12]]
 | 35 => [.keep [11, 12]]
 | 36 => [.keep [11, 12, 88]]
 | 37 => [.keep [4]]
 | 38 => [.keep [91]]
 | 39 => [.keep [4]]
 | 40 => [.keep [4]]
 | _ => []
def L3 (aTables : (List (TTable).D)) (aPlan : (List (TStep).D)) : Loops := fun id m st_ K => match id with
 | _ => False
theorem vc3 (aTables : (List (TTable).D)) (aPlan : (List (TStep).D)) (K : AV → Hp → Prop) : awp C3 (L3 aTables aPlan) ann3 (bodyOf f3) ⟨argEnv 0 [.data (Ty.sl TTable) aTables, .data (Ty.sl TStep) aPlan], []⟩ (outK tab true f3.results.toList (hasBox []) (resK (.dat Ty.bool) K)) =
 ((Ln (Ty.sl TTable) aTables) ∧ (0 ≤ (1048576 : Int)) ∧ ((1048576 : Int) ≤ 1048576) ∧ cond (decide ((M.szS M.szTable aTables (1048576 : Int)) < (0 : Int))) (K (.data Ty.bool true) []) ((Ln (Ty.sl TStep) aPlan) ∧ (0 ≤ (M.szS M.szTable aTables (1048576 : Int))) ∧ ((M.szS M.szTable aTables (1048576 : Int)) ≤ 1048576) ∧ cond (decide ((M.szS M.szStep aPlan (M.szS M.szTable aTables (1048576 : Int))) < (0 : Int))) (K (.data Ty.bool true) []) ((Sm (Ty.sl TTable) aTables) ∧ (∀ r_8_1 : (List (TTable).D), r_8_1 = (aTables) → (Sm (Ty.sl TStep) aPlan) ∧ (∀ r_8_3 : (List (TStep).D), r_8_3 = (aPlan) → (Sm (Ty.sl TTable) r_8_1) ∧ (Sm (Ty.sl TStep) r_8_3) ∧ (∀ r_8_4 : (List (TStep).D), r_8_4 = (M.planTidy r_8_1 r_8_3) → (Sm (Ty.sl TTable) aTables) ∧ (∀ r_9_1 : (List (TTable).D), r_9_1 = (aTables) → (Sm (Ty.sl TStep) aPlan) ∧ (∀ r_10_1 : (List (TStep).D), r_10_1 = (aPlan) → (Sm (Ty.sl TTable) r_9_1) ∧ (Sm (Ty.sl TStep) r_10_1) ∧ (∀ r_11_2 : (List (TStep).D), r_11_2 = (M.planTidy r_9_1 r_10_1) → (Sm (Ty.sl TStep) (cutList r_11_2 (some ((0 : Int), (r_11_2.length : Int))))) ∧ (Sm (Ty.sl TStep) r_8_4) ∧ ((cutList r_11_2 (some ((0 : Int), (r_11_2.length : Int)))) = r_8_4) ∧ cond (!(true)) (K (.data Ty.bool false) []) ((Sm (Ty.sl TTable) aTables) ∧ (∀ r_14_2 : (List (TTable).D), r_14_2 = (aTables) → (Sm (Ty.sl TTable) r_9_1) ∧ (Sm (Ty.sl TTable) r_14_2) ∧ (r_9_1 = r_14_2) ∧ cond (!(true)) (K (.data Ty.bool false) []) ((Sm (Ty.sl TStep) aPlan) ∧ (∀ r_16_2 : (List (TStep).D), r_16_2 = (aPlan) → (Sm (Ty.sl TStep) r_10_1) ∧ (Sm (Ty.sl TStep) r_16_2) ∧ (r_10_1 = r_16_2) ∧ cond (!(true)) (K (.data Ty.bool false) []) (((r_9_1.length : Int) = (r_9_1.length : Int)) ∧ (Ln (Ty.sl TTable) r_9_1) ∧ (0 ≤ (1 : Int)) ∧ ((1 : Int) + (M.count (Ty.sl TTable) r_9_1 : Int) ≤ M.big) ∧ (∀ r_19_2 : (List (TTable).D) × Int, r_19_2 = ((M.mark (Ty.sl TTable) r_9_1 (1 : Int), (1 : Int) + (M.count (Ty.sl TTable) r_9_1 : Int))) → (r_19_2.1.length = r_9_1.length) ∧ ((r_10_1.length : Int) = (r_10_1.length : Int)) ∧ (Ln (Ty.sl TStep) r_10_1) ∧ (0 ≤ r_19_2.2) ∧ (r_19_2.2 + (M.count (Ty.sl TStep) r_10_1 : Int) ≤ M.big) ∧ (∀ r_20_2 : (List (TStep).D) × Int, r_20_2 = ((M.mark (Ty.sl TStep) r_10_1 r_19_2.2, r_19_2.2 + (M.count (Ty.sl TStep) r_10_1 : Int))) → (r_20_2.1.length = r_10_1.length) ∧ cond ((decide (r_20_2.2 < (0 : Int))) == false) ((Sm (Ty.sl TStep) (cutList r_11_2 (some ((0 : Int), (r_11_2.length : Int))))) ∧ (Sm (Ty.sl TStep) r_8_4) ∧ ((cutList r_11_2 (some ((0 : Int), (r_11_2.length : Int)))) = r_8_4) ∧ cond (!(true)) (K (.data Ty.bool false) []) (((r_11_2.length : Int) = (r_11_2.length : Int)) ∧ ((r_11_2.length : Int) = (r_11_2.length : Int)) ∧ (Ln (Ty.sl TStep) r_11_2) ∧ (0 ≤ (1 : Int)) ∧ ((1 : Int) + (M.count (Ty.sl TStep) r_11_2 : Int) ≤ M.big) ∧ (∀ r_24_2 : (List (TStep).D) × Int, r_24_2 = ((M.mark (Ty.sl TStep) r_11_2 (1 : Int), (1 : Int) + (M.count (Ty.sl TStep) r_11_2 : Int))) → (r_24_2.1.length = r_11_2.length) ∧ (Ln (Ty.sl TStep) (cutList r_24_2.1 (some ((0 : Int), (r_11_2.length : Int))))) ∧ (0 ≤ (1 : Int)) ∧ ((1 : Int) + (M.count (Ty.sl TStep) (cutList r_24_2.1 (some ((0 : Int), (r_11_2.length : Int)))) : Int) ≤ M.big) ∧ (M.mark (Ty.sl TStep) (cutList r_24_2.1 (some ((0 : Int), (r_11_2.length : Int)))) (1 : Int) = (cutList r_24_2.1 (some ((0 : Int), (r_11_2.length : Int))))) ∧ cond (decide (((1 : Int) + (M.count (Ty.sl TStep) (cutList r_24_2.1 (some ((0 : Int), (r_11_2.length : Int)))) : Int)) < (0 : Int))) (K (.data Ty.bool false) []) (cond (!decide (((1 : Int) + (M.count (Ty.sl TStep) (cutList r_24_2.1 (some ((0 : Int), (r_11_2.length : Int)))) : Int)) = r_24_2.2)) (K (.data Ty.bool false) []) ((Sm (Ty.sl TTable) aTables) ∧ (∀ r_31_1 : (List (TTable).D), r_31_1 = (aTables) → (Sm (Ty.sl TStep) aPlan) ∧ (∀ r_31_3 : (List (TStep).D), r_31_3 = (aPlan) → (Sm (Ty.sl TTable) r_31_1) ∧ (Sm (Ty.sl TStep) r_31_3) ∧ (∀ r_31_4 : (List (TStep).D), r_31_4 = (M.planTidy r_31_1 r_31_3) → (Sm (Ty.sl TStep) (cutList r_31_4 (some ((0 : Int), (r_31_4.length : Int))))) ∧ (Sm (Ty.sl TStep) r_8_4) ∧ ((cutList r_31_4 (some ((0 : Int), (r_31_4.length : Int)))) = r_8_4) ∧ cond (!(true)) (K (.data Ty.bool false) []) ((Ln (Ty.sl TStep) (cutList r_24_2.1 (some ((0 : Int), (r_11_2.length : Int))))) ∧ (0 ≤ (1 : Int)) ∧ ((1 : Int) + (M.count (Ty.sl TStep) (cutList r_24_2.1 (some ((0 : Int), (r_11_2.length : Int)))) : Int) ≤ M.big) ∧ (M.mark (Ty.sl TStep) (cutList r_24_2.1 (some ((0 : Int), (r_11_2.length : Int)))) (1 : Int) = (cutList r_24_2.1 (some ((0 : Int), (r_11_2.length : Int))))) ∧ cond (decide (((1 : Int) + (M.count (Ty.sl TStep) (cutList r_24_2.1 (some ((0 : Int), (r_11_2.length : Int)))) : Int)) < (0 : Int))) (K (.data Ty.bool false) []) (cond (!decide (((1 : Int) + (M.count (Ty.sl TStep) (cutList r_24_2.1 (some ((0 : Int), (r_11_2.length : Int)))) : Int)) = r_24_2.2)) (K (.data Ty.bool false) []) (K (.data Ty.bool true) []))))))))))) (K (.data Ty.bool false) []))))))))))))))))) := by kernel_rfl
theorem con3_ok : ConOk P 3 c3 := by
 refine con_okR (fn := f3) (code := bodyOf f3) (tab_ok tab_check cmp_check) consOk3 mixed func3 rfl rfl fun args hp K h0 => ?_
 obtain ⟨a0, a1, rfl, rfl, h1⟩ := args2_elim h0
 obtain ⟨aTables, rfl, h2⟩ := withD_elim h1
 obtain ⟨aPlan, rfl, h3⟩ := withD_elim h2
 obtain ⟨h_aTables, h_aPlan, hK⟩ := h3
 have h : ok (F.laws_FnExactPlanTidy aTables aPlan) (fun r => K (.data Ty.bool r) []) := ok_of_eq (F.laws_FnExactPlanTidy_eq aTables aPlan h_aTables h_aPlan) hK
 refine ⟨⟨show (2 : Nat) ≤ 92 by decide, show (2 : Nat) ≤ 1000000 by decide⟩, ann3, (L3 aTables aPlan), (.dat Ty.bool), (no_loops (by kernel_rfl)), ?_⟩
 ·rw [vc3 aTables aPlan K]
  exact ⟨h_aTables, ⟨(ok_guard h).1, have h := (ok_guard h).2; ⟨(ok_guard h).1, have h := (ok_guard h).2; (ok_cond h (fun b_3 h => (ok_ret h :)) (fun b_3 h => ⟨h_aPlan, ⟨(ok_guard h).1, have h := (ok_guard h).2; ⟨(ok_guard h).1, have h := (ok_guard h).2; (ok_cond h (fun b_6 h => (ok_ret h :)) (fun b_6 h => ⟨(ok_guard h).1, have g_7 := (ok_guard h).1; have h := (ok_guard h).2; (fun r_8_1 e_r_8_1 => have h := ok_let h r_8_1 e_r_8_1; ⟨(ok_guard h).1, have g_8 := (ok_guard h).1; have h := (ok_guard h).2; (fun r_8_3 e_r_8_3 => have h := ok_let h r_8_3 e_r_8_3; ⟨(ok_guard h).1, have h := (ok_guard h).2; ⟨(ok_guard h).1, have h := (ok_guard h).2; (fun r_8_4 e_r_8_4 => have h := ok_let h r_8_4 e_r_8_4; ⟨g_7, (fun r_9_1 e_r_9_1 => have h := ok_let h r_9_1 e_r_9_1; ⟨g_8, (fun r_10_1 e_r_10_1 => have h := ok_let h r_10_1 e_r_10_1; ⟨(ok_guard h).1, have g_11 := (ok_guard h).1; have h := (ok_guard h).2; ⟨(ok_guard h).1, have g_12 := (ok_guard h).1; have h := (ok_guard h).2; (fun r_11_2 e_r_11_2 => have h := ok_let h r_11_2 e_r_11_2; ⟨(ok_guard h).1, have g_13 := (ok_guard h).1; have h := (ok_guard h).2; ⟨(ok_guard h).1, have g_14 := (ok_guard h).1; have h := (ok_guard h).2; ⟨(ok_guard h).1, have g_15 := (ok_guard h).1; have h := (ok_guard h).2; (ok_cond h (fun b_16 h => (ok_ret h :)) (fun b_16 h => ⟨g_7, (fun r_14_2 e_r_14_2 => have h := ok_let h r_14_2 e_r_14_2; ⟨g_11, ⟨(ok_guard h).1, have h := (ok_guard h).2; ⟨(ok_guard h).1, have h := (ok_guard h).2; (cond_f (unf (bnf b_16)) ⟨g_8, (fun r_16_2 e_r_16_2 => have h := ok_let h r_16_2 e_r_16_2; ⟨g_12, ⟨(ok_guard h).1, have h := (ok_guard h).2; ⟨(ok_guard h).1, have h := (ok_guard h).2; (cond_f (unf (bnf b_16)) ⟨rfl, ⟨(ok_guard h).1, have h := (ok_guard h).2; ⟨(ok_guard h).1, have g_24 := (ok_guard h).1; have h := (ok_guard h).2; ⟨(ok_guard h).1, have h := (ok_guard h).2; (fun r_19_2 e_r_19_2 => have h := ok_let h r_19_2 e_r_19_2; ⟨(by rw [e_r_19_2]; exact (M.mark_len TTable _ _)), ⟨rfl, ⟨(ok_guard h).1, have h := (ok_guard h).2; ⟨(ok_guard h).1, have h := (ok_guard h).2; ⟨(ok_guard h).1, have h := (ok_guard h).2; (fun r_20_2 e_r_20_2 => have h := ok_let h r_20_2 e_r_20_2; ⟨(by rw [e_r_20_2]; exact (M.mark_len TStep _ _)), (ok_cond h (fun b_29 h => ⟨g_13, ⟨g_14, ⟨g_15, (cond_f (unf (bnf b_16)) ⟨rfl, ⟨rfl, ⟨(ok_guard h).1, have h := (ok_guard h).2; ⟨g_24, ⟨(ok_guard h).1, have h := (ok_guard h).2; (fun r_24_2 e_r_24_2 => have h := ok_let h r_24_2 e_r_24_2; ⟨(by rw [e_r_24_2]; exact (M.mark_len TStep _ _)), ⟨(ok_guard h).1, have g_33 := (ok_guard h).1; have h := (ok_guard h).2; ⟨g_24, ⟨(ok_guard h).1, have g_34 := (ok_guard h).1; have h := (ok_guard h).2; ⟨(ok_guard h).1, have g_35 := (ok_guard h).1; have h := (ok_guard h).2; (ok_cond h (fun b_36 h => (ok_ret h :)) (fun b_36 h => (ok_cond h (fun b_37 h => (ok_ret h :)) (fun b_37 h => ⟨g_7, (fun r_31_1 e_r_31_1 => have h := ok_let h r_31_1 e_r_31_1; ⟨g_8, (fun r_31_3 e_r_31_3 => have h := ok_let h r_31_3 e_r_31_3; ⟨(ok_guard h).1, have h := (ok_guard h).2; ⟨(ok_guard h).1, have h := (ok_guard h).2; (fun r_31_4 e_r_31_4 => have h := ok_let h r_31_4 e_r_31_4; ⟨(ok_guard h).1, have h := (ok_guard h).2; ⟨g_14, ⟨(ok_guard h).1, have h := (ok_guard h).2; (cond_f (unf (bnf b_16)) ⟨g_33, ⟨g_24, ⟨g_34, ⟨g_35, (cond_f b_36 (cond_f (unf (bnf b_37)) (ok_ret h :)))⟩⟩⟩⟩)⟩⟩⟩)⟩⟩)⟩)⟩))))⟩⟩⟩⟩⟩)⟩⟩⟩⟩⟩)⟩⟩⟩) (fun b_29 h => (ok_ret h :)))⟩)⟩⟩⟩⟩⟩)⟩⟩⟩⟩)⟩⟩⟩)⟩)⟩⟩⟩)⟩))⟩⟩⟩)⟩⟩)⟩)⟩)⟩⟩)⟩)⟩))⟩⟩⟩))⟩⟩⟩
end Go.AE
