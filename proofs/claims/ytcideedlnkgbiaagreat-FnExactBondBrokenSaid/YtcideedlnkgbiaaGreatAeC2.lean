/- Contracts. -/
import Derived.Test.YtcideedlnkgbiaaGreatAeSeat
import Derived.Test.YtcideedlnkgbiaaGreatAeEq
import Derived.Test.YtcideedlnkgbiaaGreatAeInl
import Derived.Test.YtcideedlnkgbiaaGreatAeC1
namespace Go.AE
open Go Go.RowKit
set_option maxRecDepth 100000
set_option linter.unusedVariables false

/-! 171: cmp.isNaN[string] -/
def c171 : Con := ⟨[.dat Ty.str], fun args hp K => args1 (fun a0 => withD Ty.str a0 fun x => (Sm Ty.str x) ∧ K (.data Ty.bool (false)) []) args hp⟩
def cons171 : Cons := []
def inl171 : List (Nat × Inl) := []
@[reducible] def C171 : Ctx := ⟨tab, fun t => memN t cmps, cons171, 6, inl171, 0⟩
theorem consOk171 : ConsOk P C171 := by
  exact consOk_nil
def ann171 : Nat → List Dir
  | 0 => [.keep [0]]
  | 1 => [.keep [2]]
  | _ => []
def L171 (x : ByteArray) : Loops := fun id m st_ K => match id with
  | _ => False
theorem vc171 (x : ByteArray) (K : AV → Hp → Prop) : awp C171 (L171 x) ann171 (bodyOf Go.Proofs.Tryz.f171) ⟨argEnv 0 [.data Ty.str x], []⟩ (outK tab Go.Proofs.Tryz.f171.results.toList (hasBox []) (resK (.dat Ty.bool) K)) =
  (K (.data Ty.bool (!decide (x = x))) []) := by kernel_rfl
theorem con171_ok : ConOk P 171 c171 := by
  refine con_okR (fn := Go.Proofs.Tryz.f171) (code := bodyOf Go.Proofs.Tryz.f171) (tab_ok tab_check cmp_check) consOk171 mixed Go.Proofs.Tryz.func171 rfl rfl fun args hp K h0 => ?_
  obtain ⟨a0, rfl, rfl, h1⟩ := args1_elim h0
  obtain ⟨x, rfl, h2⟩ := withD_elim h1
  obtain ⟨h_x, hK⟩ := h2
  have h : ok (F.cmp_isNaN_string x) (fun r => K (.data Ty.bool r) []) := ok_of_eq (F.cmp_isNaN_string_eq x h_x) hK
  refine ⟨⟨show (1 : Nat) ≤ 6 by decide, show (1 : Nat) ≤ 1000000 by decide⟩, ann171, (L171 x), (.dat Ty.bool), (no_loops (by kernel_rfl)), ?_⟩
  · rw [vc171 x K]
    exact (have h := ok_ret h; h)

/-! 168: cmp.Compare[string] -/
def c168 : Con := ⟨[.dat Ty.str, .dat Ty.str], fun args hp K => args2 (fun a0 a1 => withD Ty.str a0 fun x => withD Ty.str a1 fun y => (Sm Ty.str x) ∧ (Sm Ty.str y) ∧ K (.data (Ty.int .i64) (M.cmpS x y)) []) args hp⟩
def cons168 : Cons := [(171, c171)]
def inl168 : List (Nat × Inl) := []
@[reducible] def C168 : Ctx := ⟨tab, fun t => memN t cmps, cons168, 20, inl168, 0⟩
theorem consOk168 : ConsOk P C168 := by
  refine consOk_cons (enter_ok (fn := Go.Proofs.Tryz.f171) Go.Proofs.Tryz.func171 (by kernel_rfl) rfl) con171_ok ?_
  exact consOk_nil
def ann168 : Nat → List Dir
  | 0 => [.keep [0, 1]]
  | 1 => [.keep [0, 1, 5]]
  | 2 => [.keep [0, 1, 5, 6]]
  | 3 => [.keep [0, 1, 6, 11]]
  | 4 => [.keep [12]]
  | 5 => [.keep [4]]
  | 6 => [.keep [4]]
  | 7 => [.keep [0, 1, 13]]
  | 8 => [.keep [4]]
  | 9 => [.keep [0, 1, 16]]
  | 10 => [.keep [4]]
  | 11 => [.keep [19]]
  | 12 => [.keep [4]]
  | 13 => [.keep [4]]
  | _ => []
def L168 (x : ByteArray) (y : ByteArray) : Loops := fun id m st_ K => match id with
  | _ => False
theorem vc168 (x : ByteArray) (y : ByteArray) (K : AV → Hp → Prop) : awp C168 (L168 x y) ann168 (bodyOf Go.Proofs.Tryz.f168) ⟨argEnv 0 [.data Ty.str x, .data Ty.str y], []⟩ (outK tab Go.Proofs.Tryz.f168.results.toList (hasBox []) (resK (.dat (Ty.int .i64)) K)) =
  ((Sm Ty.str x) ∧ (Sm Ty.str y) ∧ cond (false) (cond (false) (K (.data (Ty.int .i64) (0 : Int)) []) (K (.data (Ty.int .i64) (-1 : Int)) [])) (cond (false) (K (.data (Ty.int .i64) (1 : Int)) []) (cond (Op.bytesLess x.toList y.toList) (K (.data (Ty.int .i64) (-1 : Int)) []) (cond (!(Op.bytesLess x.toList y.toList || decide (x = y))) (K (.data (Ty.int .i64) (1 : Int)) []) (K (.data (Ty.int .i64) (0 : Int)) []))))) := by kernel_rfl
theorem con168_ok : ConOk P 168 c168 := by
  refine con_okR (fn := Go.Proofs.Tryz.f168) (code := bodyOf Go.Proofs.Tryz.f168) (tab_ok tab_check cmp_check) consOk168 mixed Go.Proofs.Tryz.func168 rfl rfl fun args hp K h0 => ?_
  obtain ⟨a0, a1, rfl, rfl, h1⟩ := args2_elim h0
  obtain ⟨x, rfl, h2⟩ := withD_elim h1
  obtain ⟨y, rfl, h3⟩ := withD_elim h2
  obtain ⟨h_x, h_y, hK⟩ := h3
  have h : ok (F.cmp_Compare_string x y) (fun r => K (.data (Ty.int .i64) r) []) := ok_of_eq (F.cmp_Compare_string_eq x y h_x h_y) hK
  refine ⟨⟨show (2 : Nat) ≤ 20 by decide, show (2 : Nat) ≤ 1000000 by decide⟩, ann168, (L168 x y), (.dat (Ty.int .i64)), (no_loops (by kernel_rfl)), ?_⟩
  · rw [vc168 x y K]
    exact ⟨h_x, ⟨h_y, (ok_cond h (fun b_1 h => (cond_t b_1 (have h := ok_ret h; h))) (fun b_1 h => (cond_f b_1 (ok_cond h (fun b_4 h => (have h := ok_ret h; h)) (fun b_4 h => (ok_cond h (fun b_5 h => (have h := ok_ret h; h)) (fun b_5 h => (have h := ok_ret h; h))))))))⟩⟩

/-! 164: (loop.example/tablehouse/impl.Value).order -/
def c164 : Con := ⟨[.dat TValue, .dat TValue], fun args hp K => args2 (fun a0 a1 => withD TValue a0 fun v => withD TValue a1 fun w => (Sm TValue v) ∧ (Sm TValue w) ∧ K (.data (Ty.int .i64) (M.order v w)) []) args hp⟩
def cons164 : Cons := [(166, c166), (167, c167), (168, c168)]
def inl164 : List (Nat × Inl) := []
@[reducible] def C164 : Ctx := ⟨tab, fun t => memN t cmps, cons164, 22, inl164, 0⟩
theorem consOk164 : ConsOk P C164 := by
  refine consOk_cons (enter_ok (fn := Go.Proofs.Tryz.f166) Go.Proofs.Tryz.func166 (by kernel_rfl) rfl) con166_ok ?_
  refine consOk_cons (enter_ok (fn := Go.Proofs.Tryz.f167) Go.Proofs.Tryz.func167 (by kernel_rfl) rfl) con167_ok ?_
  refine consOk_cons (enter_ok (fn := Go.Proofs.Tryz.f168) Go.Proofs.Tryz.func168 (by kernel_rfl) rfl) con168_ok ?_
  exact consOk_nil
def ann164 : Nat → List Dir
  | 0 => [.fixRow 2 TValue, .fixRow 3 TValue, .keep [2, 3]]
  | 1 => [.keep [4]]
  | _ => []
def L164 (v : (TValue).D) (w : (TValue).D) : Loops := fun id m st_ K => match id with
  | _ => False
theorem vc164 (v : (TValue).D) (w : (TValue).D) (K : AV → Hp → Prop) : awp C164 (L164 v w) ann164 (bodyOf Go.Proofs.Tryz.f164) ⟨argEnv 0 [.data TValue v, .data TValue w], []⟩ (outK tab Go.Proofs.Tryz.f164.results.toList (hasBox []) (resK (.dat (Ty.int .i64)) K)) =
  ((Sm Ty.str v.2.2.1) ∧ (Sm Ty.str w.2.2.1) ∧ (Sm (Ty.sl (Ty.int .i64)) [(M.cmpI v.1 w.1), (M.cmpI v.2.1 w.2.1), (M.cmpS v.2.2.1 w.2.2.1)]) ∧ K (.data (Ty.int .i64) (M.orI [(M.cmpI v.1 w.1), (M.cmpI v.2.1 w.2.1), (M.cmpS v.2.2.1 w.2.2.1)])) []) := by kernel_rfl
theorem con164_ok : ConOk P 164 c164 := by
  refine con_okR (fn := Go.Proofs.Tryz.f164) (code := bodyOf Go.Proofs.Tryz.f164) (tab_ok tab_check cmp_check) consOk164 mixed Go.Proofs.Tryz.func164 rfl rfl fun args hp K h0 => ?_
  obtain ⟨a0, a1, rfl, rfl, h1⟩ := args2_elim h0
  obtain ⟨v, rfl, h2⟩ := withD_elim h1
  obtain ⟨w, rfl, h3⟩ := withD_elim h2
  obtain ⟨h_v, h_w, hK⟩ := h3
  have h : ok (F.impl_Value_order v w) (fun r => K (.data (Ty.int .i64) r) []) := ok_of_eq (F.impl_Value_order_eq v w h_v h_w) hK
  refine ⟨⟨show (2 : Nat) ≤ 22 by decide, show (2 : Nat) ≤ 1000000 by decide⟩, ann164, (L164 v w), (.dat (Ty.int .i64)), (no_loops (by kernel_rfl)), ?_⟩
  · rw [vc164 v w K]
    exact ⟨h_v.2.2.1, ⟨h_w.2.2.1, ⟨(ok_guard h).1, have g_1 := (ok_guard h).1; have h := (ok_guard h).2; (have h := ok_ret h; h)⟩⟩⟩

/-! 149: loop.example/tablehouse/impl.Compare -/
def c149 : Con := ⟨[.dat (Ty.int .i64), .dat TValue, .dat TValue], fun args hp K => args3 (fun a0 a1 a2 => withD (Ty.int .i64) a0 fun kind => withD TValue a1 fun a => withD TValue a2 fun b => (Sm TValue a) ∧ (Sm TValue b) ∧ K (.data (Ty.int .i64) (M.compare kind a b)) []) args hp⟩
def cons149 : Cons := [(89, c89), (146, c146), (154, c154), (164, c164)]
def inl149 : List (Nat × Inl) := []
@[reducible] def C149 : Ctx := ⟨tab, fun t => memN t cmps, cons149, 71, inl149, 0⟩
theorem consOk149 : ConsOk P C149 := by
  refine consOk_cons (enter_ok (fn := Go.Proofs.Tryz.f89) Go.Proofs.Tryz.func89 (by kernel_rfl) rfl) con89_ok ?_
  refine consOk_cons (enter_ok (fn := Go.Proofs.Tryz.f146) Go.Proofs.Tryz.func146 (by kernel_rfl) rfl) con146_ok ?_
  refine consOk_cons (enter_ok (fn := Go.Proofs.Tryz.f154) Go.Proofs.Tryz.func154 (by kernel_rfl) rfl) con154_ok ?_
  refine consOk_cons (enter_ok (fn := Go.Proofs.Tryz.f164) Go.Proofs.Tryz.func164 (by kernel_rfl) rfl) con164_ok ?_
  exact consOk_nil
def ann149 : Nat → List Dir
  | 0 => [.fixRow 4 TValue, .fixRow 5 TValue, .keep [0, 4, 5]]
  | 1 => [.keep [0, 4, 5, 8]]
  | 2 => [.keep [6]]
  | 3 => [.keep [0, 4, 5, 22]]
  | 4 => [.keep [6]]
  | 5 => [.keep [0, 4, 5, 31]]
  | 6 => [.keep [6]]
  | 7 => [.keep [0, 7]]
  | 8 => [.keep [6]]
  | _ => []
def L149 (kind : Int) (a : (TValue).D) (b : (TValue).D) : Loops := fun id m st_ K => match id with
  | _ => False
theorem vc149 (kind : Int) (a : (TValue).D) (b : (TValue).D) (K : AV → Hp → Prop) : awp C149 (L149 kind a b) ann149 (bodyOf Go.Proofs.Tryz.f149) ⟨argEnv 0 [.data (Ty.int .i64) kind, .data TValue a, .data TValue b], []⟩ (outK tab Go.Proofs.Tryz.f149.results.toList (hasBox []) (resK (.dat (Ty.int .i64)) K)) =
  (cond ((!(M.inR kind (1 : Int) (4 : Int))) == false) ((Sm TValue a) ∧ cond ((!(M.valueOk a)) == false) ((Sm TValue b) ∧ cond (!(M.valueOk b)) (K (.data (Ty.int .i64) (-1 : Int)) []) (cond ((decide (a.1 = (0 : Int))) == false) (cond (decide (b.1 = (0 : Int))) (K (.data (Ty.int .i64) (2 : Int)) []) (cond (!decide (a.1 = b.1)) (K (.data (Ty.int .i64) (-1 : Int)) []) ((Sm TValue a) ∧ (Sm TValue b) ∧ cond ((decide (kind = (1 : Int))) == true) (cond ((decide ((M.order a b) = (0 : Int))) == false) (cond ((decide (kind = (2 : Int))) == true) (cond ((!decide ((M.order a b) = (0 : Int))) == false) (cond ((decide (kind = (3 : Int))) == true) (cond ((decide ((M.order a b) < (0 : Int))) == false) (cond ((decide (kind = (4 : Int))) == true) (K (.data (Ty.int .i64) (M.bool (decide ((M.order a b) ≤ (0 : Int))))) []) (K (.data (Ty.int .i64) (M.bool false)) [])) (K (.data (Ty.int .i64) (M.bool true)) [])) (cond ((decide (kind = (4 : Int))) == true) (K (.data (Ty.int .i64) (M.bool (decide ((M.order a b) ≤ (0 : Int))))) []) (K (.data (Ty.int .i64) (M.bool false)) []))) (K (.data (Ty.int .i64) (M.bool true)) [])) (cond ((decide (kind = (3 : Int))) == true) (cond ((decide ((M.order a b) < (0 : Int))) == false) (cond ((decide (kind = (4 : Int))) == true) (K (.data (Ty.int .i64) (M.bool (decide ((M.order a b) ≤ (0 : Int))))) []) (K (.data (Ty.int .i64) (M.bool false)) [])) (K (.data (Ty.int .i64) (M.bool true)) [])) (cond ((decide (kind = (4 : Int))) == true) (K (.data (Ty.int .i64) (M.bool (decide ((M.order a b) ≤ (0 : Int))))) []) (K (.data (Ty.int .i64) (M.bool false)) [])))) (K (.data (Ty.int .i64) (M.bool true)) [])) (cond ((decide (kind = (2 : Int))) == true) (cond ((!decide ((M.order a b) = (0 : Int))) == false) (cond ((decide (kind = (3 : Int))) == true) (cond ((decide ((M.order a b) < (0 : Int))) == false) (cond ((decide (kind = (4 : Int))) == true) (K (.data (Ty.int .i64) (M.bool (decide ((M.order a b) ≤ (0 : Int))))) []) (K (.data (Ty.int .i64) (M.bool false)) [])) (K (.data (Ty.int .i64) (M.bool true)) [])) (cond ((decide (kind = (4 : Int))) == true) (K (.data (Ty.int .i64) (M.bool (decide ((M.order a b) ≤ (0 : Int))))) []) (K (.data (Ty.int .i64) (M.bool false)) []))) (K (.data (Ty.int .i64) (M.bool true)) [])) (cond ((decide (kind = (3 : Int))) == true) (cond ((decide ((M.order a b) < (0 : Int))) == false) (cond ((decide (kind = (4 : Int))) == true) (K (.data (Ty.int .i64) (M.bool (decide ((M.order a b) ≤ (0 : Int))))) []) (K (.data (Ty.int .i64) (M.bool false)) [])) (K (.data (Ty.int .i64) (M.bool true)) [])) (cond ((decide (kind = (4 : Int))) == true) (K (.data (Ty.int .i64) (M.bool (decide ((M.order a b) ≤ (0 : Int))))) []) (K (.data (Ty.int .i64) (M.bool false)) []))))))) (K (.data (Ty.int .i64) (2 : Int)) []))) (K (.data (Ty.int .i64) (-1 : Int)) [])) (K (.data (Ty.int .i64) (-1 : Int)) [])) := by kernel_rfl
theorem con149_ok : ConOk P 149 c149 := by
  refine con_okR (fn := Go.Proofs.Tryz.f149) (code := bodyOf Go.Proofs.Tryz.f149) (tab_ok tab_check cmp_check) consOk149 mixed Go.Proofs.Tryz.func149 rfl rfl fun args hp K h0 => ?_
  obtain ⟨a0, a1, a2, rfl, rfl, h1⟩ := args3_elim h0
  obtain ⟨kind, rfl, h2⟩ := withD_elim h1
  obtain ⟨a, rfl, h3⟩ := withD_elim h2
  obtain ⟨b, rfl, h4⟩ := withD_elim h3
  obtain ⟨h_a, h_b, hK⟩ := h4
  have h : ok (F.impl_Compare kind a b) (fun r => K (.data (Ty.int .i64) r) []) := ok_of_eq (F.impl_Compare_eq kind a b h_a h_b) hK
  refine ⟨⟨show (3 : Nat) ≤ 71 by decide, show (3 : Nat) ≤ 1000000 by decide⟩, ann149, (L149 kind a b), (.dat (Ty.int .i64)), (no_loops (by kernel_rfl)), ?_⟩
  · rw [vc149 kind a b K]
    exact (ok_cond h (fun b_1 h => ⟨h_a, (ok_cond h (fun b_2 h => ⟨h_b, (ok_cond h (fun b_3 h => (have h := ok_ret h; h)) (fun b_3 h => (ok_cond h (fun b_4 h => (ok_cond h (fun b_5 h => (have h := ok_ret h; h)) (fun b_5 h => (ok_cond h (fun b_6 h => (have h := ok_ret h; h)) (fun b_6 h => ⟨h_a, ⟨h_b, (ok_cond h (fun b_7 h => (ok_cond h (fun b_8 h => (cond_f (uef (dec_ne (bet b_7) (by decide))) (cond_f (uef (dec_ne (bet b_7) (by decide))) (cond_f (uef (dec_ne (bet b_7) (by decide))) (have h := ok_ret h; h))))) (fun b_8 h => (have h := ok_ret h; h)))) (fun b_7 h => (ok_cond h (fun b_19 h => (ok_cond h (fun b_20 h => (cond_f (uef (dec_ne (bet b_19) (by decide))) (cond_f (uef (dec_ne (bet b_19) (by decide))) (have h := ok_ret h; h)))) (fun b_20 h => (have h := ok_ret h; h)))) (fun b_19 h => (ok_cond h (fun b_25 h => (ok_cond h (fun b_26 h => (cond_f (uef (dec_ne (bet b_25) (by decide))) (have h := ok_ret h; h))) (fun b_26 h => (have h := ok_ret h; h)))) (fun b_25 h => (ok_cond h (fun b_28 h => (have h := ok_ret h; h)) (fun b_28 h => (have h := ok_ret h; h)))))))))⟩⟩))))) (fun b_4 h => (have h := ok_ret h; h)))))⟩) (fun b_2 h => (have h := ok_ret h; h)))⟩) (fun b_1 h => (have h := ok_ret h; h)))

/-! 169: loop.example/tablehouse/impl.TruthOk -/
def c169 : Con := ⟨[.dat (Ty.int .i64)], fun args hp K => args1 (fun a0 => withD (Ty.int .i64) a0 fun n => K (.data Ty.bool (M.inR n 0 2)) []) args hp⟩
def cons169 : Cons := [(89, c89)]
def inl169 : List (Nat × Inl) := []
@[reducible] def C169 : Ctx := ⟨tab, fun t => memN t cmps, cons169, 5, inl169, 0⟩
theorem consOk169 : ConsOk P C169 := by
  refine consOk_cons (enter_ok (fn := Go.Proofs.Tryz.f89) Go.Proofs.Tryz.func89 (by kernel_rfl) rfl) con89_ok ?_
  exact consOk_nil
def ann169 : Nat → List Dir
  | 0 => [.keep [0]]
  | 1 => [.keep [2]]
  | _ => []
def L169 (n : Int) : Loops := fun id m st_ K => match id with
  | _ => False
theorem vc169 (n : Int) (K : AV → Hp → Prop) : awp C169 (L169 n) ann169 (bodyOf Go.Proofs.Tryz.f169) ⟨argEnv 0 [.data (Ty.int .i64) n], []⟩ (outK tab Go.Proofs.Tryz.f169.results.toList (hasBox []) (resK (.dat Ty.bool) K)) =
  (K (.data Ty.bool (M.inR n (0 : Int) (2 : Int))) []) := by kernel_rfl
theorem con169_ok : ConOk P 169 c169 := by
  refine con_okR (fn := Go.Proofs.Tryz.f169) (code := bodyOf Go.Proofs.Tryz.f169) (tab_ok tab_check cmp_check) consOk169 mixed Go.Proofs.Tryz.func169 rfl rfl fun args hp K h0 => ?_
  obtain ⟨a0, rfl, rfl, h1⟩ := args1_elim h0
  obtain ⟨n, rfl, h2⟩ := withD_elim h1
  have hK := h2
  have h : ok (F.impl_TruthOk n) (fun r => K (.data Ty.bool r) []) := ok_of_eq (F.impl_TruthOk_eq n) hK
  refine ⟨⟨show (1 : Nat) ≤ 5 by decide, show (1 : Nat) ≤ 1000000 by decide⟩, ann169, (L169 n), (.dat Ty.bool), (no_loops (by kernel_rfl)), ?_⟩
  · rw [vc169 n K]
    exact (have h := ok_ret h; h)

/-! 165: loop.example/tablehouse/impl.fold -/
def c165 : Con := ⟨[.dat (Ty.int .i64), .dat (Ty.int .i64), .dat (Ty.int .i64)], fun args hp K => args3 (fun a0 a1 a2 => withD (Ty.int .i64) a0 fun a => withD (Ty.int .i64) a1 fun b => withD (Ty.int .i64) a2 fun alone => (0 ≤ alone ∧ alone ≤ 1) ∧ K (.data (Ty.int .i64) (M.fold a b alone)) []) args hp⟩
def cons165 : Cons := [(169, c169)]
def inl165 : List (Nat × Inl) := []
@[reducible] def C165 : Ctx := ⟨tab, fun t => memN t cmps, cons165, 35, inl165, 0⟩
theorem consOk165 : ConsOk P C165 := by
  refine consOk_cons (enter_ok (fn := Go.Proofs.Tryz.f169) Go.Proofs.Tryz.func169 (by kernel_rfl) rfl) con169_ok ?_
  exact consOk_nil
def ann165 : Nat → List Dir
  | 0 => [.keep [0, 1, 2]]
  | 1 => [.keep [0, 1, 2, 7]]
  | 2 => [.keep [6]]
  | 3 => [.keep [0, 1, 2, 16]]
  | 4 => [.keep [6]]
  | 5 => [.keep [2, 26]]
  | 6 => [.keep [6]]
  | 7 => [.keep [6]]
  | _ => []
def L165 (a : Int) (b : Int) (alone : Int) : Loops := fun id m st_ K => match id with
  | _ => False
theorem vc165 (a : Int) (b : Int) (alone : Int) (K : AV → Hp → Prop) : awp C165 (L165 a b alone) ann165 (bodyOf Go.Proofs.Tryz.f165) ⟨argEnv 0 [.data (Ty.int .i64) a, .data (Ty.int .i64) b, .data (Ty.int .i64) alone], []⟩ (outK tab Go.Proofs.Tryz.f165.results.toList (hasBox []) (resK (.dat (Ty.int .i64)) K)) =
  (cond ((!(M.inR a 0 2)) == false) (cond (!(M.inR b 0 2)) (K (.data (Ty.int .i64) (-1 : Int)) []) (cond ((decide (a = alone)) == false) (cond (decide (b = alone)) (K (.data (Ty.int .i64) alone) []) (cond ((decide (a = (2 : Int))) == false) (cond (decide (b = (2 : Int))) (K (.data (Ty.int .i64) (2 : Int)) []) (K (.data (Ty.int .i64) (wrap64 ((1 : Int) - alone))) [])) (K (.data (Ty.int .i64) (2 : Int)) []))) (K (.data (Ty.int .i64) alone) []))) (K (.data (Ty.int .i64) (-1 : Int)) [])) := by kernel_rfl
theorem con165_ok : ConOk P 165 c165 := by
  refine con_okR (fn := Go.Proofs.Tryz.f165) (code := bodyOf Go.Proofs.Tryz.f165) (tab_ok tab_check cmp_check) consOk165 mixed Go.Proofs.Tryz.func165 rfl rfl fun args hp K h0 => ?_
  obtain ⟨a0, a1, a2, rfl, rfl, h1⟩ := args3_elim h0
  obtain ⟨a, rfl, h2⟩ := withD_elim h1
  obtain ⟨b, rfl, h3⟩ := withD_elim h2
  obtain ⟨alone, rfl, h4⟩ := withD_elim h3
  obtain ⟨p0, hK⟩ := h4
  have h : ok (F.impl_fold a b alone) (fun r => K (.data (Ty.int .i64) r) []) := ok_of_eq (F.impl_fold_eq a b alone p0) hK
  refine ⟨⟨show (3 : Nat) ≤ 35 by decide, show (3 : Nat) ≤ 1000000 by decide⟩, ann165, (L165 a b alone), (.dat (Ty.int .i64)), (no_loops (by kernel_rfl)), ?_⟩
  · rw [vc165 a b alone K]
    exact (ok_cond h (fun b_1 h => (ok_cond h (fun b_2 h => (have h := ok_ret h; h)) (fun b_2 h => (ok_cond h (fun b_3 h => (ok_cond h (fun b_4 h => (have h := ok_ret h; h)) (fun b_4 h => (ok_cond h (fun b_5 h => (ok_cond h (fun b_6 h => (have h := ok_ret h; h)) (fun b_6 h => (have h := ok_ret h; h)))) (fun b_5 h => (have h := ok_ret h; h)))))) (fun b_3 h => (have h := ok_ret h; h)))))) (fun b_1 h => (have h := ok_ret h; h)))

/-! 150: loop.example/tablehouse/impl.AndOf -/
def c150 : Con := ⟨[.dat (Ty.int .i64), .dat (Ty.int .i64)], fun args hp K => args2 (fun a0 a1 => withD (Ty.int .i64) a0 fun a => withD (Ty.int .i64) a1 fun b => K (.data (Ty.int .i64) (M.andOf a b)) []) args hp⟩
def cons150 : Cons := [(165, c165)]
def inl150 : List (Nat × Inl) := []
@[reducible] def C150 : Ctx := ⟨tab, fun t => memN t cmps, cons150, 8, inl150, 0⟩
theorem consOk150 : ConsOk P C150 := by
  refine consOk_cons (enter_ok (fn := Go.Proofs.Tryz.f165) Go.Proofs.Tryz.func165 (by kernel_rfl) rfl) con165_ok ?_
  exact consOk_nil
def ann150 : Nat → List Dir
  | 0 => [.keep [0, 1]]
  | 1 => [.keep [4]]
  | _ => []
def L150 (a : Int) (b : Int) : Loops := fun id m st_ K => match id with
  | _ => False
theorem vc150 (a : Int) (b : Int) (K : AV → Hp → Prop) : awp C150 (L150 a b) ann150 (bodyOf Go.Proofs.Tryz.f150) ⟨argEnv 0 [.data (Ty.int .i64) a, .data (Ty.int .i64) b], []⟩ (outK tab Go.Proofs.Tryz.f150.results.toList (hasBox []) (resK (.dat (Ty.int .i64)) K)) =
  ((0 ≤ (0 : Int) ∧ (0 : Int) ≤ 1) ∧ K (.data (Ty.int .i64) (M.fold a b (0 : Int))) []) := by kernel_rfl
theorem con150_ok : ConOk P 150 c150 := by
  refine con_okR (fn := Go.Proofs.Tryz.f150) (code := bodyOf Go.Proofs.Tryz.f150) (tab_ok tab_check cmp_check) consOk150 mixed Go.Proofs.Tryz.func150 rfl rfl fun args hp K h0 => ?_
  obtain ⟨a0, a1, rfl, rfl, h1⟩ := args2_elim h0
  obtain ⟨a, rfl, h2⟩ := withD_elim h1
  obtain ⟨b, rfl, h3⟩ := withD_elim h2
  have hK := h3
  have h : ok (F.impl_AndOf a b) (fun r => K (.data (Ty.int .i64) r) []) := ok_of_eq (F.impl_AndOf_eq a b) hK
  refine ⟨⟨show (2 : Nat) ≤ 8 by decide, show (2 : Nat) ≤ 1000000 by decide⟩, ann150, (L150 a b), (.dat (Ty.int .i64)), (no_loops (by kernel_rfl)), ?_⟩
  · rw [vc150 a b K]
    exact ⟨(ok_guard h).1, have g_1 := (ok_guard h).1; have h := (ok_guard h).2; (have h := ok_ret h; h)⟩

/-! 151: loop.example/tablehouse/impl.TruthOf -/
def c151 : Con := ⟨[.dat TValue], fun args hp K => args1 (fun a0 => withD TValue a0 fun v => (Sm TValue v) ∧ K (.data (Ty.int .i64) (M.truthOf v)) []) args hp⟩
def cons151 : Cons := [(146, c146)]
def inl151 : List (Nat × Inl) := []
@[reducible] def C151 : Ctx := ⟨tab, fun t => memN t cmps, cons151, 17, inl151, 0⟩
theorem consOk151 : ConsOk P C151 := by
  refine consOk_cons (enter_ok (fn := Go.Proofs.Tryz.f146) Go.Proofs.Tryz.func146 (by kernel_rfl) rfl) con146_ok ?_
  exact consOk_nil
def ann151 : Nat → List Dir
  | 0 => [.fixRow 1 TValue, .keep [1]]
  | 1 => [.keep [1, 3]]
  | 2 => [.keep [2]]
  | 3 => [.keep [1, 7]]
  | 4 => [.keep [2]]
  | 5 => [.keep [1, 11]]
  | 6 => [.keep [2]]
  | 7 => [.keep [2]]
  | _ => []
def L151 (v : (TValue).D) : Loops := fun id m st_ K => match id with
  | _ => False
theorem vc151 (v : (TValue).D) (K : AV → Hp → Prop) : awp C151 (L151 v) ann151 (bodyOf Go.Proofs.Tryz.f151) ⟨argEnv 0 [.data TValue v], []⟩ (outK tab Go.Proofs.Tryz.f151.results.toList (hasBox []) (resK (.dat (Ty.int .i64)) K)) =
  ((Sm TValue v) ∧ cond (!(M.valueOk v)) (K (.data (Ty.int .i64) (-1 : Int)) []) (cond (decide (v.1 = (0 : Int))) (K (.data (Ty.int .i64) (2 : Int)) []) (cond (decide (v.1 = (3 : Int))) (K (.data (Ty.int .i64) v.2.1) []) (K (.data (Ty.int .i64) (-1 : Int)) [])))) := by kernel_rfl
theorem con151_ok : ConOk P 151 c151 := by
  refine con_okR (fn := Go.Proofs.Tryz.f151) (code := bodyOf Go.Proofs.Tryz.f151) (tab_ok tab_check cmp_check) consOk151 mixed Go.Proofs.Tryz.func151 rfl rfl fun args hp K h0 => ?_
  obtain ⟨a0, rfl, rfl, h1⟩ := args1_elim h0
  obtain ⟨v, rfl, h2⟩ := withD_elim h1
  obtain ⟨h_v, hK⟩ := h2
  have h : ok (F.impl_TruthOf v) (fun r => K (.data (Ty.int .i64) r) []) := ok_of_eq (F.impl_TruthOf_eq v h_v) hK
  refine ⟨⟨show (1 : Nat) ≤ 17 by decide, show (1 : Nat) ≤ 1000000 by decide⟩, ann151, (L151 v), (.dat (Ty.int .i64)), (no_loops (by kernel_rfl)), ?_⟩
  · rw [vc151 v K]
    exact ⟨h_v, (ok_cond h (fun b_1 h => (have h := ok_ret h; h)) (fun b_1 h => (ok_cond h (fun b_2 h => (have h := ok_ret h; h)) (fun b_2 h => (ok_cond h (fun b_3 h => (have h := ok_ret h; h)) (fun b_3 h => (have h := ok_ret h; h)))))))⟩

/-! 152: loop.example/tablehouse/impl.OrOf -/
def c152 : Con := ⟨[.dat (Ty.int .i64), .dat (Ty.int .i64)], fun args hp K => args2 (fun a0 a1 => withD (Ty.int .i64) a0 fun a => withD (Ty.int .i64) a1 fun b => K (.data (Ty.int .i64) (M.orOf a b)) []) args hp⟩
def cons152 : Cons := [(165, c165)]
def inl152 : List (Nat × Inl) := []
@[reducible] def C152 : Ctx := ⟨tab, fun t => memN t cmps, cons152, 8, inl152, 0⟩
theorem consOk152 : ConsOk P C152 := by
  refine consOk_cons (enter_ok (fn := Go.Proofs.Tryz.f165) Go.Proofs.Tryz.func165 (by kernel_rfl) rfl) con165_ok ?_
  exact consOk_nil
def ann152 : Nat → List Dir
  | 0 => [.keep [0, 1]]
  | 1 => [.keep [4]]
  | _ => []
def L152 (a : Int) (b : Int) : Loops := fun id m st_ K => match id with
  | _ => False
theorem vc152 (a : Int) (b : Int) (K : AV → Hp → Prop) : awp C152 (L152 a b) ann152 (bodyOf Go.Proofs.Tryz.f152) ⟨argEnv 0 [.data (Ty.int .i64) a, .data (Ty.int .i64) b], []⟩ (outK tab Go.Proofs.Tryz.f152.results.toList (hasBox []) (resK (.dat (Ty.int .i64)) K)) =
  ((0 ≤ (1 : Int) ∧ (1 : Int) ≤ 1) ∧ K (.data (Ty.int .i64) (M.fold a b (1 : Int))) []) := by kernel_rfl
theorem con152_ok : ConOk P 152 c152 := by
  refine con_okR (fn := Go.Proofs.Tryz.f152) (code := bodyOf Go.Proofs.Tryz.f152) (tab_ok tab_check cmp_check) consOk152 mixed Go.Proofs.Tryz.func152 rfl rfl fun args hp K h0 => ?_
  obtain ⟨a0, a1, rfl, rfl, h1⟩ := args2_elim h0
  obtain ⟨a, rfl, h2⟩ := withD_elim h1
  obtain ⟨b, rfl, h3⟩ := withD_elim h2
  have hK := h3
  have h : ok (F.impl_OrOf a b) (fun r => K (.data (Ty.int .i64) r) []) := ok_of_eq (F.impl_OrOf_eq a b) hK
  refine ⟨⟨show (2 : Nat) ≤ 8 by decide, show (2 : Nat) ≤ 1000000 by decide⟩, ann152, (L152 a b), (.dat (Ty.int .i64)), (no_loops (by kernel_rfl)), ?_⟩
  · rw [vc152 a b K]
    exact ⟨(ok_guard h).1, have g_1 := (ok_guard h).1; have h := (ok_guard h).2; (have h := ok_ret h; h)⟩

/-! 153: loop.example/tablehouse/impl.NotOf -/
def c153 : Con := ⟨[.dat (Ty.int .i64)], fun args hp K => args1 (fun a0 => withD (Ty.int .i64) a0 fun a => K (.data (Ty.int .i64) (M.notOf a)) []) args hp⟩
def cons153 : Cons := []
def inl153 : List (Nat × Inl) := []
@[reducible] def C153 : Ctx := ⟨tab, fun t => memN t cmps, cons153, 10, inl153, 0⟩
theorem consOk153 : ConsOk P C153 := by
  exact consOk_nil
def ann153 : Nat → List Dir
  | 0 => [.keep [0]]
  | 1 => [.keep [3]]
  | 2 => [.keep [3, 4]]
  | 3 => [.keep [2]]
  | 4 => [.keep [3, 6]]
  | 5 => [.keep [2]]
  | 6 => [.keep [8]]
  | 7 => [.keep [2]]
  | 8 => [.keep [2]]
  | _ => []
def L153 (a : Int) : Loops := fun id m st_ K => match id with
  | _ => False
theorem vc153 (a : Int) (K : AV → Hp → Prop) : awp C153 (L153 a) ann153 (bodyOf Go.Proofs.Tryz.f153) ⟨argEnv 0 [.data (Ty.int .i64) a], []⟩ (outK tab Go.Proofs.Tryz.f153.results.toList (hasBox []) (resK (.dat (Ty.int .i64)) K)) =
  (cond (decide (a = (0 : Int))) (K (.data (Ty.int .i64) (1 : Int)) []) (cond (decide (a = (1 : Int))) (K (.data (Ty.int .i64) (0 : Int)) []) (cond (decide (a = (2 : Int))) (K (.data (Ty.int .i64) (2 : Int)) []) (K (.data (Ty.int .i64) (-1 : Int)) [])))) := by kernel_rfl
theorem con153_ok : ConOk P 153 c153 := by
  refine con_okR (fn := Go.Proofs.Tryz.f153) (code := bodyOf Go.Proofs.Tryz.f153) (tab_ok tab_check cmp_check) consOk153 mixed Go.Proofs.Tryz.func153 rfl rfl fun args hp K h0 => ?_
  obtain ⟨a0, rfl, rfl, h1⟩ := args1_elim h0
  obtain ⟨a, rfl, h2⟩ := withD_elim h1
  have hK := h2
  have h : ok (F.impl_NotOf a) (fun r => K (.data (Ty.int .i64) r) []) := ok_of_eq (F.impl_NotOf_eq a) hK
  refine ⟨⟨show (1 : Nat) ≤ 10 by decide, show (1 : Nat) ≤ 1000000 by decide⟩, ann153, (L153 a), (.dat (Ty.int .i64)), (no_loops (by kernel_rfl)), ?_⟩
  · rw [vc153 a K]
    exact (ok_cond h (fun b_1 h => (have h := ok_ret h; h)) (fun b_1 h => (ok_cond h (fun b_2 h => (have h := ok_ret h; h)) (fun b_2 h => (ok_cond h (fun b_3 h => (have h := ok_ret h; h)) (fun b_3 h => (have h := ok_ret h; h)))))))

/-! 128: (loop.example/tablehouse/impl.Part).value -/
def c128 : Con := ⟨[.dat TPart, .dat (Ty.sl TValue), .lent TValue], fun args hp K => args3 (fun a0 a1 a2 => withD TPart a0 fun p => withD (Ty.sl TValue) a1 fun row => withB TValue a2 fun inp => (Sm TPart p) ∧ (Sm (Ty.sl TValue) row) ∧ (Sm (Ty.sl TValue) inp) ∧ ((inp.length : Int) = M.takes p) ∧ (M.colIn p row.length) ∧ (1 ≤ p.1 ∧ p.1 ≤ 8) ∧ (∀ r : (TValue).D, r = (M.partValue p row inp) → K (.data TValue r) [])) args hp⟩
def cons128 : Cons := [(93, c93), (146, c146), (149, c149), (150, c150), (151, c151), (152, c152), (153, c153), (154, c154)]
def inl128 : List (Nat × Inl) := []
@[reducible] def C128 : Ctx := ⟨tab, fun t => memN t cmps, cons128, 103, inl128, 0⟩
theorem consOk128 : ConsOk P C128 := by
  refine consOk_cons (enter_ok (fn := Go.Proofs.Tryz.f93) Go.Proofs.Tryz.func93 (by kernel_rfl) rfl) con93_ok ?_
  refine consOk_cons (enter_ok (fn := Go.Proofs.Tryz.f146) Go.Proofs.Tryz.func146 (by kernel_rfl) rfl) con146_ok ?_
  refine consOk_cons (enter_ok (fn := Go.Proofs.Tryz.f149) Go.Proofs.Tryz.func149 (by kernel_rfl) rfl) con149_ok ?_
  refine consOk_cons (enter_ok (fn := Go.Proofs.Tryz.f150) Go.Proofs.Tryz.func150 (by kernel_rfl) rfl) con150_ok ?_
  refine consOk_cons (enter_ok (fn := Go.Proofs.Tryz.f151) Go.Proofs.Tryz.func151 (by kernel_rfl) rfl) con151_ok ?_
  refine consOk_cons (enter_ok (fn := Go.Proofs.Tryz.f152) Go.Proofs.Tryz.func152 (by kernel_rfl) rfl) con152_ok ?_
  refine consOk_cons (enter_ok (fn := Go.Proofs.Tryz.f153) Go.Proofs.Tryz.func153 (by kernel_rfl) rfl) con153_ok ?_
  refine consOk_cons (enter_ok (fn := Go.Proofs.Tryz.f154) Go.Proofs.Tryz.func154 (by kernel_rfl) rfl) con154_ok ?_
  exact consOk_nil
def ann128 : Nat → List Dir
  | 0 => [.fixRow 3 TPart, .keep [1, 2, 3, 6]]
  | 1 => [.keep [1, 2, 3, 6, 9]]
  | 2 => [.keep [1, 2, 3, 6, 9, 10]]
  | 3 => [.keep [6]]
  | 4 => [.keep [1, 2, 3, 6, 9, 14]]
  | 5 => [.keep [6]]
  | 6 => [.keep [2, 3, 6, 9, 21]]
  | 7 => [.fixRow 7 TValue, .keep [2, 6, 7]]
  | 8 => [.keep [6, 7, 49]]
  | 9 => [.keep [6]]
  | 10 => [.keep [6]]
  | 11 => [.keep [2, 3, 6, 9, 52]]
  | 12 => [.keep [6]]
  | 13 => [.keep [2, 6, 9, 64]]
  | 14 => [.keep [6]]
  | 15 => [.keep [2, 6, 9, 76]]
  | 16 => [.keep [6]]
  | 17 => [.keep [2, 6, 88]]
  | 18 => [.keep [6]]
  | 19 => [.keep [6]]
  | _ => []
def L128 (p : (TPart).D) (row : (List (TValue).D)) (inp : (List (TValue).D)) : Loops := fun id m st_ K => match id with
  | _ => False
theorem vc128 (p : (TPart).D) (row : (List (TValue).D)) (inp : (List (TValue).D)) (K : AV → Hp → Prop) : awp C128 (L128 p row inp) ann128 (bodyOf Go.Proofs.Tryz.f128) ⟨argEnv 0 [.data TPart p, .data (Ty.sl TValue) row, .brw TValue inp], []⟩ (outK tab Go.Proofs.Tryz.f128.results.toList (hasBox []) (resK (.dat TValue) K)) =
  (cond (decide (p.1 = (1 : Int))) (K (.data TValue p.2.2.1) []) (cond (decide (p.1 = (2 : Int))) ((0 ≤ p.2.1) ∧ (p.2.1 < (row.length : Int)) ∧ K (.data TValue (nth (t := TValue) row p.2.1)) []) (cond (decide (p.1 = (3 : Int))) ((0 ≤ (0 : Int)) ∧ ((0 : Int) < (inp.length : Int)) ∧ (0 ≤ (1 : Int)) ∧ ((1 : Int) < (inp.length : Int)) ∧ (0 ≤ (0 : Int)) ∧ ((0 : Int) < (inp.length : Int)) ∧ cond ((decide ((nth (t := TValue) inp (0 : Int)).1 = (0 : Int))) == false) ((0 ≤ (1 : Int)) ∧ ((1 : Int) < (inp.length : Int)) ∧ cond ((decide ((nth (t := TValue) inp (1 : Int)).1 = (0 : Int))) == false) ((Sm TValue ((1 : Int), (wrap64 (((nth (t := TValue) inp (0 : Int)).2).1 + ((nth (t := TValue) inp (1 : Int)).2).1), ((⟨#[]⟩ : ByteArray), ())))) ∧ cond (!(M.valueOk ((1 : Int), (wrap64 (((nth (t := TValue) inp (0 : Int)).2).1 + ((nth (t := TValue) inp (1 : Int)).2).1), ((⟨#[]⟩ : ByteArray), ()))))) (K (.data TValue ((0 : Int), ((0 : Int), ((⟨#[]⟩ : ByteArray), ())))) []) (K (.data TValue ((1 : Int), (wrap64 (((nth (t := TValue) inp (0 : Int)).2).1 + ((nth (t := TValue) inp (1 : Int)).2).1), ((⟨#[]⟩ : ByteArray), ())))) [])) (K (.data TValue ((0 : Int), ((0 : Int), ((⟨#[]⟩ : ByteArray), ())))) [])) (K (.data TValue ((0 : Int), ((0 : Int), ((⟨#[]⟩ : ByteArray), ())))) [])) (cond (decide (p.1 = (4 : Int))) ((0 ≤ (0 : Int)) ∧ ((0 : Int) < (inp.length : Int)) ∧ (0 ≤ (1 : Int)) ∧ ((1 : Int) < (inp.length : Int)) ∧ (Sm TValue (nth (t := TValue) inp (0 : Int))) ∧ (Sm TValue (nth (t := TValue) inp (1 : Int))) ∧ (∀ r_12_9 : (TValue).D, r_12_9 = (M.valueOf (M.compare p.2.1 (nth (t := TValue) inp (0 : Int)) (nth (t := TValue) inp (1 : Int)))) → K (.data TValue r_12_9) [])) (cond (decide (p.1 = (5 : Int))) ((0 ≤ (0 : Int)) ∧ ((0 : Int) < (inp.length : Int)) ∧ (0 ≤ (1 : Int)) ∧ ((1 : Int) < (inp.length : Int)) ∧ (Sm TValue (nth (t := TValue) inp (0 : Int))) ∧ (Sm TValue (nth (t := TValue) inp (1 : Int))) ∧ (∀ r_14_9 : (TValue).D, r_14_9 = (M.valueOf (M.andOf (M.truthOf (nth (t := TValue) inp (0 : Int))) (M.truthOf (nth (t := TValue) inp (1 : Int))))) → K (.data TValue r_14_9) [])) (cond (decide (p.1 = (6 : Int))) ((0 ≤ (0 : Int)) ∧ ((0 : Int) < (inp.length : Int)) ∧ (0 ≤ (1 : Int)) ∧ ((1 : Int) < (inp.length : Int)) ∧ (Sm TValue (nth (t := TValue) inp (0 : Int))) ∧ (Sm TValue (nth (t := TValue) inp (1 : Int))) ∧ (∀ r_16_9 : (TValue).D, r_16_9 = (M.valueOf (M.orOf (M.truthOf (nth (t := TValue) inp (0 : Int))) (M.truthOf (nth (t := TValue) inp (1 : Int))))) → K (.data TValue r_16_9) [])) (cond (decide (p.1 = (7 : Int))) ((0 ≤ (0 : Int)) ∧ ((0 : Int) < (inp.length : Int)) ∧ (Sm TValue (nth (t := TValue) inp (0 : Int))) ∧ (∀ r_18_5 : (TValue).D, r_18_5 = (M.valueOf (M.notOf (M.truthOf (nth (t := TValue) inp (0 : Int))))) → K (.data TValue r_18_5) [])) ((0 ≤ (0 : Int)) ∧ ((0 : Int) < (inp.length : Int)) ∧ (∀ r_19_6 : (TValue).D, r_19_6 = (M.valueOf (M.bool (decide ((nth (t := TValue) inp (0 : Int)).1 = (0 : Int))))) → K (.data TValue r_19_6) []))))))))) := by kernel_rfl
theorem con128_ok : ConOk P 128 c128 := by
  refine con_okR (fn := Go.Proofs.Tryz.f128) (code := bodyOf Go.Proofs.Tryz.f128) (tab_ok tab_check cmp_check) consOk128 mixed Go.Proofs.Tryz.func128 rfl rfl fun args hp K h0 => ?_
  obtain ⟨a0, a1, a2, rfl, rfl, h1⟩ := args3_elim h0
  obtain ⟨p, rfl, h2⟩ := withD_elim h1
  obtain ⟨row, rfl, h3⟩ := withD_elim h2
  obtain ⟨inp, rfl, h4⟩ := withB_elim h3
  obtain ⟨h_p, h_row, h_inp, p0, p1, p2, hK⟩ := h4
  have h : ok (F.impl_Part_value p row inp) (fun r => K (.data TValue r) []) := ok_of_eq (F.impl_Part_value_eq p row inp h_p h_row h_inp p0 p1 p2) (hK _ rfl)
  refine ⟨⟨show (3 : Nat) ≤ 103 by decide, show (3 : Nat) ≤ 1000000 by decide⟩, ann128, (L128 p row inp), (.dat TValue), (no_loops (by kernel_rfl)), ?_⟩
  · rw [vc128 p row inp K]
    exact (ok_cond h (fun b_1 h => (have h := ok_ret h; h)) (fun b_1 h => (ok_cond h (fun b_2 h => ⟨(ok_guard h).1, have g_3 := (ok_guard h).1; have h := (ok_guard h).2; ⟨(ok_guard h).1, have g_4 := (ok_guard h).1; have h := (ok_guard h).2; (have h := ok_ret h; h)⟩⟩) (fun b_2 h => (ok_cond h (fun b_5 h => ⟨(Int.natCast_nonneg 0), ⟨(ok_guard h).1, have g_6 := (ok_guard h).1; have h := (ok_guard h).2; ⟨(Int.natCast_nonneg 1), ⟨(ok_guard h).1, have g_7 := (ok_guard h).1; have h := (ok_guard h).2; ⟨(Int.natCast_nonneg 0), ⟨g_6, (ok_cond h (fun b_8 h => ⟨(Int.natCast_nonneg 1), ⟨g_7, (ok_cond h (fun b_9 h => ⟨(show Sm TValue _ from ⟨trivial, (show Sm (Ty.pair (Ty.int .i64) (Ty.pair Ty.str Ty.unit)) _ from ⟨trivial, (show Sm (Ty.pair Ty.str Ty.unit) _ from ⟨(Nat.le_of_ble_eq_true rfl), trivial⟩)⟩)⟩), (ok_cond h (fun b_10 h => (have h := ok_ret h; h)) (fun b_10 h => (have h := ok_ret h; h)))⟩) (fun b_9 h => (have h := ok_ret h; h)))⟩⟩) (fun b_8 h => (have h := ok_ret h; h)))⟩⟩⟩⟩⟩⟩) (fun b_5 h => (ok_cond h (fun b_11 h => ⟨(Int.natCast_nonneg 0), ⟨(ok_guard h).1, have g_12 := (ok_guard h).1; have h := (ok_guard h).2; ⟨(Int.natCast_nonneg 1), ⟨(ok_guard h).1, have g_13 := (ok_guard h).1; have h := (ok_guard h).2; ⟨(sm_nth h_inp (0 : Int)), ⟨(sm_nth h_inp (1 : Int)), (fun r_12_9 e_r_12_9 => have h := ok_let h r_12_9 e_r_12_9; (have h := ok_ret h; h))⟩⟩⟩⟩⟩⟩) (fun b_11 h => (ok_cond h (fun b_14 h => ⟨(Int.natCast_nonneg 0), ⟨(ok_guard h).1, have g_15 := (ok_guard h).1; have h := (ok_guard h).2; ⟨(Int.natCast_nonneg 1), ⟨(ok_guard h).1, have g_16 := (ok_guard h).1; have h := (ok_guard h).2; ⟨(sm_nth h_inp (0 : Int)), ⟨(sm_nth h_inp (1 : Int)), (fun r_14_9 e_r_14_9 => have h := ok_let h r_14_9 e_r_14_9; (have h := ok_ret h; h))⟩⟩⟩⟩⟩⟩) (fun b_14 h => (ok_cond h (fun b_17 h => ⟨(Int.natCast_nonneg 0), ⟨(ok_guard h).1, have g_18 := (ok_guard h).1; have h := (ok_guard h).2; ⟨(Int.natCast_nonneg 1), ⟨(ok_guard h).1, have g_19 := (ok_guard h).1; have h := (ok_guard h).2; ⟨(sm_nth h_inp (0 : Int)), ⟨(sm_nth h_inp (1 : Int)), (fun r_16_9 e_r_16_9 => have h := ok_let h r_16_9 e_r_16_9; (have h := ok_ret h; h))⟩⟩⟩⟩⟩⟩) (fun b_17 h => (ok_cond h (fun b_20 h => ⟨(Int.natCast_nonneg 0), ⟨(ok_guard h).1, have g_21 := (ok_guard h).1; have h := (ok_guard h).2; ⟨(sm_nth h_inp (0 : Int)), (fun r_18_5 e_r_18_5 => have h := ok_let h r_18_5 e_r_18_5; (have h := ok_ret h; h))⟩⟩⟩) (fun b_20 h => ⟨(Int.natCast_nonneg 0), ⟨(ok_guard h).1, have g_22 := (ok_guard h).1; have h := (ok_guard h).2; (fun r_19_6 e_r_19_6 => have h := ok_let h r_19_6 e_r_19_6; (have h := ok_ret h; h))⟩⟩))))))))))))))

/-! 92: loop.example/tablehouse/impl.exprValue -/
def c92 : Con := ⟨[.dat (Ty.sl TValue), .dat (Ty.sl TPart)], fun args hp K => args2 (fun a0 a1 => withD (Ty.sl TValue) a0 fun row => withD (Ty.sl TPart) a1 fun e => (Sm (Ty.sl TValue) row) ∧ (Sm (Ty.sl TPart) e) ∧ (M.exprSafe row.length e) ∧ (∀ r : (TValue).D, r = (M.exprValue row e) → K (.data TValue r) [])) args hp⟩
def cons92 : Cons := [(125, c125), (128, c128)]
def inl92 : List (Nat × Inl) := []
@[reducible] def C92 : Ctx := ⟨tab, fun t => memN t cmps, cons92, 37, inl92, 0⟩
theorem consOk92 : ConsOk P C92 := by
  refine consOk_cons (enter_ok (fn := Go.Proofs.Tryz.f125) Go.Proofs.Tryz.func125 (by kernel_rfl) rfl) con125_ok ?_
  refine consOk_cons (enter_ok (fn := Go.Proofs.Tryz.f128) Go.Proofs.Tryz.func128 (by kernel_rfl) rfl) con128_ok ?_
  exact consOk_nil
def ann92 : Nat → List Dir
  | 0 => [.keep [0, 1, 4]]
  | 1 => [.keep [0, 1, 4, 5]]
  | 2 => [.keep [0, 4, 5, 10, 11, 12]]
  | 3 => [.keep [0, 4, 5, 10, 11, 12, 13]]
  | 4 => [.fixRow 7 TPart, .keep [0, 4, 5, 7, 10, 11, 12]]
  | 5 => [.keep [0, 4, 5, 7, 8, 10, 11, 12]]
  | 6 => [.fixRow 9 TValue, .keep [0, 4, 5, 8, 9, 10, 11, 12]]
  | 7 => [.keep [0, 4, 5, 10, 11, 12]]
  | 8 => [.keep [0, 4, 5, 10, 11, 12]]
  | 9 => [.keep [4]]
  | 100000 => [.keep [4, 5]]
  | _ => []
@[reducible] def LP92_0 (row : (List (TValue).D)) (e : (List (TPart).D)) (m : Nat) (st_ : St) (K : X → St → Prop) : Prop := (True) ∧ LoopE (t := TPart) (fun (i0 : Int) (v0 : (List (TValue).D)) => (⟨[(0, .data (Ty.sl TValue) row), (4, .ptr 4 0), (5, .own 5 none), (10, .data (Ty.sl TPart) e), (11, .data (Ty.int .i64) (e.length : Int)), (12, .data (Ty.int .i64) i0)], [(4, .box [.data (Ty.int .i64) (0 : Int), .data (Ty.int .i64) (0 : Int), .data Ty.str (⟨#[]⟩ : ByteArray)]), (5, .arr TValue v0)]⟩ : St)) e (F.impl_exprValue_l0 row e) (fun v0 : (List (TValue).D) => True) (outD (fun v0 : (List (TValue).D) => True → K (.exit 0) (⟨[(4, .ptr 4 0), (5, .own 5 none)], [(4, .box [.data (Ty.int .i64) (0 : Int), .data (Ty.int .i64) (0 : Int), .data Ty.str (⟨#[]⟩ : ByteArray)]), (5, .arr TValue v0)]⟩ : St)) (fun _ => False)) m st_
def L92 (row : (List (TValue).D)) (e : (List (TPart).D)) : Loops := fun id m st_ K => match id with
  | 0 => LP92_0 row e m st_ K
  | _ => False
theorem vc92 (row : (List (TValue).D)) (e : (List (TPart).D)) (K : AV → Hp → Prop) : awp C92 (L92 row e) ann92 (bodyOf Go.Proofs.Tryz.f92) ⟨argEnv 0 [.data (Ty.sl TValue) row, .data (Ty.sl TPart) e], []⟩ (outK tab Go.Proofs.Tryz.f92.results.toList (hasBox []) (resK (.dat TValue) K)) =
  ((∃ m_, (True) ∧ LoopE (t := TPart) (fun (i0 : Int) (v0 : (List (TValue).D)) => (⟨[(0, .data (Ty.sl TValue) row), (4, .ptr 4 0), (5, .own 5 none), (10, .data (Ty.sl TPart) e), (11, .data (Ty.int .i64) (e.length : Int)), (12, .data (Ty.int .i64) i0)], [(4, .box [.data (Ty.int .i64) (0 : Int), .data (Ty.int .i64) (0 : Int), .data Ty.str (⟨#[]⟩ : ByteArray)]), (5, .arr TValue v0)]⟩ : St)) e (F.impl_exprValue_l0 row e) (fun v0 : (List (TValue).D) => True) (outD (fun v0 : (List (TValue).D) => True → (0 ≤ (0 : Int)) ∧ ((0 : Int) < (v0.length : Int)) ∧ K (.data TValue (nth (t := TValue) v0 (0 : Int))) []) (fun _ => False)) m_ (⟨[(0, .data (Ty.sl TValue) row), (4, .ptr 4 0), (5, .own 5 none), (10, .data (Ty.sl TPart) e), (11, .data (Ty.int .i64) (e.length : Int)), (12, .data (Ty.int .i64) (0 : Int))], [(4, .box [.data (Ty.int .i64) (0 : Int), .data (Ty.int .i64) (0 : Int), .data Ty.str (⟨#[]⟩ : ByteArray)]), (5, .arr TValue [])]⟩ : St))) := by kernel_rfl
theorem lvc92_0 (row : (List (TValue).D)) (e : (List (TPart).D))  (i0 : Int) (v0 : (List (TValue).D)) (m : Nat) (K : X → St → Prop) : awp C92 (L92 row e) ann92 (loopAt (bodyOf Go.Proofs.Tryz.f92) 0) (⟨[(0, .data (Ty.sl TValue) row), (4, .ptr 4 0), (5, .own 5 none), (10, .data (Ty.sl TPart) e), (11, .data (Ty.int .i64) (e.length : Int)), (12, .data (Ty.int .i64) i0)], [(4, .box [.data (Ty.int .i64) (0 : Int), .data (Ty.int .i64) (0 : Int), .data Ty.str (⟨#[]⟩ : ByteArray)]), (5, .arr TValue v0)]⟩ : St) (thenW (fun s' => ∃ m', m' < m ∧ (L92 row e) 0 m' s' K) (exitN 0 (ann92 (behind 0)) K)) =
  (cond (decide (i0 < (e.length : Int))) ((0 ≤ i0) ∧ (i0 < (e.length : Int)) ∧ (Sm TPart (nth (t := TPart) e i0)) ∧ (0 ≤ wrap64 ((v0.length : Int) - (M.takes (nth (t := TPart) e i0)))) ∧ (wrap64 ((v0.length : Int) - (M.takes (nth (t := TPart) e i0))) ≤ (v0.length : Int)) ∧ ((v0.length : Int) ≤ (v0.length : Int)) ∧ ((v0.length : Int) = (v0.length : Int)) ∧ ((Sm TPart (nth (t := TPart) e i0)) ∧ (Sm (Ty.sl TValue) row) ∧ (Sm (Ty.sl TValue) (cutList v0 (some (wrap64 ((v0.length : Int) - (M.takes (nth (t := TPart) e i0))), (v0.length : Int))))) ∧ (((cutList v0 (some (wrap64 ((v0.length : Int) - (M.takes (nth (t := TPart) e i0))), (v0.length : Int)))).length : Int) = M.takes (nth (t := TPart) e i0)) ∧ (M.colIn (nth (t := TPart) e i0) row.length) ∧ (1 ≤ (nth (t := TPart) e i0).1 ∧ (nth (t := TPart) e i0).1 ≤ 8) ∧ (∀ r_6_5 : (TValue).D, r_6_5 = (M.partValue (nth (t := TPart) e i0) row (cutList v0 (some (wrap64 ((v0.length : Int) - (M.takes (nth (t := TPart) e i0))), (v0.length : Int))))) → (0 ≤ (0 : Int)) ∧ ((0 : Int) ≤ wrap64 ((v0.length : Int) - (M.takes (nth (t := TPart) e i0)))) ∧ (wrap64 ((v0.length : Int) - (M.takes (nth (t := TPart) e i0))) ≤ (v0.length : Int)) ∧ (wrap64 ((v0.length : Int) - (M.takes (nth (t := TPart) e i0))) = wrap64 ((v0.length : Int) - (M.takes (nth (t := TPart) e i0)))) ∧ ((0 : Int) = 0) ∧ (((wrap64 ((v0.length : Int) - (M.takes (nth (t := TPart) e i0)))).toNat + [r_6_5].length) * 32 ≤ lim) ∧ (∃ m_, m_ < m ∧ (L92 row e) 0 m_ (⟨[(0, .data (Ty.sl TValue) row), (4, .ptr 4 0), (5, .own 5 none), (10, .data (Ty.sl TPart) e), (11, .data (Ty.int .i64) (e.length : Int)), (12, .data (Ty.int .i64) (wrap64 (i0 + (1 : Int))))], [(4, .box [.data (Ty.int .i64) (0 : Int), .data (Ty.int .i64) (0 : Int), .data Ty.str (⟨#[]⟩ : ByteArray)]), (5, .arr TValue (v0.take (wrap64 ((v0.length : Int) - (M.takes (nth (t := TPart) e i0)))).toNat ++ [r_6_5]))]⟩ : St) K))) ∧ ((Sm TPart (nth (t := TPart) e i0)) ∧ (Sm (Ty.sl TValue) row) ∧ (Sm (Ty.sl TValue) (cutList v0 (some (wrap64 ((v0.length : Int) - (M.takes (nth (t := TPart) e i0))), (v0.length : Int))))) ∧ (((cutList v0 (some (wrap64 ((v0.length : Int) - (M.takes (nth (t := TPart) e i0))), (v0.length : Int)))).length : Int) = M.takes (nth (t := TPart) e i0)) ∧ (M.colIn (nth (t := TPart) e i0) row.length) ∧ (1 ≤ (nth (t := TPart) e i0).1 ∧ (nth (t := TPart) e i0).1 ≤ 8) ∧ (∀ r_6_5 : (TValue).D, r_6_5 = (M.partValue (nth (t := TPart) e i0) row (cutList v0 (some (wrap64 ((v0.length : Int) - (M.takes (nth (t := TPart) e i0))), (v0.length : Int))))) → (0 ≤ (0 : Int)) ∧ ((0 : Int) ≤ wrap64 ((v0.length : Int) - (M.takes (nth (t := TPart) e i0)))) ∧ (wrap64 ((v0.length : Int) - (M.takes (nth (t := TPart) e i0))) ≤ (v0.length : Int)) ∧ (wrap64 ((v0.length : Int) - (M.takes (nth (t := TPart) e i0))) = wrap64 ((v0.length : Int) - (M.takes (nth (t := TPart) e i0)))) ∧ ((0 : Int) = 0) ∧ (((wrap64 ((v0.length : Int) - (M.takes (nth (t := TPart) e i0)))).toNat + [r_6_5].length) * 32 ≤ lim) ∧ (∃ m_, m_ < m ∧ (L92 row e) 0 m_ (⟨[(0, .data (Ty.sl TValue) row), (4, .ptr 4 0), (5, .own 5 none), (10, .data (Ty.sl TPart) e), (11, .data (Ty.int .i64) (e.length : Int)), (12, .data (Ty.int .i64) (wrap64 (i0 + (1 : Int))))], [(4, .box [.data (Ty.int .i64) (0 : Int), .data (Ty.int .i64) (0 : Int), .data Ty.str (⟨#[]⟩ : ByteArray)]), (5, .arr TValue (v0.take (wrap64 ((v0.length : Int) - (M.takes (nth (t := TPart) e i0)))).toNat ++ [r_6_5]))]⟩ : St) K)))) (K (.exit 0) (⟨[(4, .ptr 4 0), (5, .own 5 none)], [(4, .box [.data (Ty.int .i64) (0 : Int), .data (Ty.int .i64) (0 : Int), .data Ty.str (⟨#[]⟩ : ByteArray)]), (5, .arr TValue v0)]⟩ : St))) := by kernel_rfl
theorem con92_ok : ConOk P 92 c92 := by
  refine con_okR (fn := Go.Proofs.Tryz.f92) (code := bodyOf Go.Proofs.Tryz.f92) (tab_ok tab_check cmp_check) consOk92 mixed Go.Proofs.Tryz.func92 rfl rfl fun args hp K h0 => ?_
  obtain ⟨a0, a1, rfl, rfl, h1⟩ := args2_elim h0
  obtain ⟨row, rfl, h2⟩ := withD_elim h1
  obtain ⟨e, rfl, h3⟩ := withD_elim h2
  obtain ⟨h_row, h_e, p0, hK⟩ := h3
  have h : ok (F.impl_exprValue row e) (fun r => K (.data TValue r) []) := ok_of_eq (F.impl_exprValue_eq row e h_row h_e p0) (hK _ rfl)
  refine ⟨⟨show (2 : Nat) ≤ 37 by decide, show (2 : Nat) ≤ 1000000 by decide⟩, ann92, (L92 row e), (.dat TValue), (loopsN1 (i0 := 0) (by kernel_rfl) ?_), ?_⟩
  · clear h
    intro m_ s_ K_ h
    obtain ⟨hc0, i0, v0, rfl, hl0, rfl, hv0, h⟩ := (show LP92_0 row e m_ s_ K_ from h)
    rw [lvc92_0 row e i0 v0 _ K_]
    exact (loopE_step (t := TPart) hl0 h (fun ht0 h => ⟨hl0, ⟨ht0, ⟨(sm_nth h_e i0), ⟨(ok_guard h).1, have g_33 := (ok_guard h).1; have h := (ok_guard h).2; ⟨(ok_guard h).1, have g_34 := (ok_guard h).1; have h := (ok_guard h).2; ⟨(Int.le_refl _), ⟨rfl, ((fun (g1_0 : Sm (Ty.sl TValue) (cutList v0 (some (wrap64 ((v0.length : Int) - (M.takes (nth (t := TPart) e i0))), (v0.length : Int))))) => (fun (g1_1 : ((cutList v0 (some (wrap64 ((v0.length : Int) - (M.takes (nth (t := TPart) e i0))), (v0.length : Int)))).length : Int) = M.takes (nth (t := TPart) e i0)) => (fun (g1_2 : M.colIn (nth (t := TPart) e i0) row.length) => (fun (g1_3 : 1 ≤ (nth (t := TPart) e i0).1 ∧ (nth (t := TPart) e i0).1 ≤ 8) => ⟨⟨(sm_nth h_e i0), ⟨h_row, ⟨g1_0, have g_35 := g1_0; ⟨g1_1, have g_36 := g1_1; ⟨g1_2, have g_37 := g1_2; ⟨g1_3, have g_38 := g1_3; (fun r_6_5 e_r_6_5 => (have h := (ok_let (ok_guard (ok_guard (ok_guard (ok_guard h).2).2).2).2 r_6_5 e_r_6_5); ⟨(Int.natCast_nonneg 0), ⟨(ok_guard h).1, have g_39 := (ok_guard h).1; have h := (ok_guard h).2; ⟨g_34, ⟨rfl, ⟨rfl, ⟨(ok_guard h).1, have g_40 := (ok_guard h).1; have h := (ok_guard h).2; (loopE_next (t := TPart) (fun m hm => (show LP92_0 row e m _ _ from ⟨hc0, hm⟩)) (v0.take (wrap64 ((v0.length : Int) - (M.takes (nth (t := TPart) e i0)))).toNat ++ [r_6_5]) rfl hl0 ht0 (sm_len h_e) trivial (have h := ok_ret h; h))⟩⟩⟩⟩⟩⟩))⟩⟩⟩⟩⟩⟩, ⟨(sm_nth h_e i0), ⟨h_row, ⟨g1_0, have g_41 := g1_0; ⟨g1_1, have g_42 := g1_1; ⟨g1_2, have g_43 := g1_2; ⟨g1_3, have g_44 := g1_3; (fun r_6_5 e_r_6_5 => (have h := (ok_let (ok_guard (ok_guard (ok_guard (ok_guard h).2).2).2).2 r_6_5 e_r_6_5); ⟨(Int.natCast_nonneg 0), ⟨(ok_guard h).1, have g_45 := (ok_guard h).1; have h := (ok_guard h).2; ⟨g_34, ⟨rfl, ⟨rfl, ⟨(ok_guard h).1, have g_46 := (ok_guard h).1; have h := (ok_guard h).2; (loopE_next (t := TPart) (fun m hm => (show LP92_0 row e m _ _ from ⟨hc0, hm⟩)) (v0.take (wrap64 ((v0.length : Int) - (M.takes (nth (t := TPart) e i0)))).toNat ++ [r_6_5]) rfl hl0 ht0 (sm_len h_e) trivial (have h := ok_ret h; h))⟩⟩⟩⟩⟩⟩))⟩⟩⟩⟩⟩⟩⟩) (ok_guard (ok_guard (ok_guard (ok_guard h).2).2).2).1) (ok_guard (ok_guard (ok_guard h).2).2).1) (ok_guard (ok_guard h).2).1) (ok_guard h).1)⟩⟩⟩⟩⟩⟩⟩) (fun h => (h trivial)))
  · rw [vc92 row e K]
    exact (loopE_start (t := TPart) (fun m hm => ⟨trivial, hm⟩) [] rfl trivial (ok_then h (fun v0 h hv0 => ⟨(Int.natCast_nonneg 0), ⟨(ok_guard h).1, have g_47 := (ok_guard h).1; have h := (ok_guard h).2; (have h := ok_ret h; h)⟩⟩) (fun _ h => h.elim)))

/-! 97: (loop.example/tablehouse/impl.Bond).breaks$2 -/
def c97 : Con := ⟨[.dat (Ty.sl (Ty.int .i64)), .any], fun args hp K => args2 (fun a0 a1 => withD (Ty.sl (Ty.int .i64)) a0 fun list => withR (Ty.sl TValue) a1 fun key => (Sm (Ty.sl (Ty.int .i64)) list) ∧ (Sm (Ty.sl TValue) key) ∧ (∀ r : (List Int) × (List (TValue).D), r = ((list, key)) → K (.fn 98 [.ref (.data (Ty.sl (Ty.int .i64)) r.1), .ref (.data (Ty.sl TValue) r.2)]) [])) args hp⟩
def cons97 : Cons := [(98, c98)]
def inl97 : List (Nat × Inl) := []
@[reducible] def C97 : Ctx := ⟨tab, fun t => memN t cmps, cons97, 5, inl97, 0⟩
theorem consOk97 : ConsOk P C97 := by
  refine consOk_cons (enter_ok (fn := Go.Proofs.Tryz.f98) Go.Proofs.Tryz.func98 (by kernel_rfl) rfl) con98_ok ?_
  exact consOk_nil
def ann97 : Nat → List Dir
  | 0 => [.fixBox 2, .keep [1, 2]]
  | 1 => [.keep [3]]
  | _ => []
def L97 (list : (List Int)) (key : (List (TValue).D)) : Loops := fun id m st_ K => match id with
  | _ => False
theorem vc97 (list : (List Int)) (key : (List (TValue).D)) (K : AV → Hp → Prop) : awp C97 (L97 list key) ann97 (bodyOf Go.Proofs.Tryz.f97) ⟨argEnv 0 [.data (Ty.sl (Ty.int .i64)) list, .ref (.data (Ty.sl TValue) key)], []⟩ (outK tab Go.Proofs.Tryz.f97.results.toList (hasBox []) (resK .raw K)) =
  (K (.fn 98 [.ref (.data (Ty.sl (Ty.int .i64)) list), .ref (.data (Ty.sl TValue) key)]) []) := by kernel_rfl
theorem con97_ok : ConOk P 97 c97 := by
  refine con_okR (fn := Go.Proofs.Tryz.f97) (code := bodyOf Go.Proofs.Tryz.f97) (tab_ok tab_check cmp_check) consOk97 mixed Go.Proofs.Tryz.func97 rfl rfl fun args hp K h0 => ?_
  obtain ⟨a0, a1, rfl, rfl, h1⟩ := args2_elim h0
  obtain ⟨list, rfl, h2⟩ := withD_elim h1
  obtain ⟨key, rfl, h3⟩ := withR_elim h2
  obtain ⟨h_list, h_key, hK⟩ := h3
  have h : ok (F.impl_Bond_breaks_2 list key) (fun r => K (.fn 98 [.ref (.data (Ty.sl (Ty.int .i64)) r.1), .ref (.data (Ty.sl TValue) r.2)]) []) := ok_of_eq (F.impl_Bond_breaks_2_eq list key h_list h_key) (hK _ rfl)
  refine ⟨⟨show (2 : Nat) ≤ 5 by decide, show (2 : Nat) ≤ 1000000 by decide⟩, ann97, (L97 list key), .raw, (no_loops (by kernel_rfl)), ?_⟩
  · rw [vc97 list key K]
    exact (have h := ok_ret h; h)

/-! 64: (loop.example/tablehouse/impl.Bond).breaks -/
def c64 : Con := ⟨[.dat TBond, .dat (Ty.sl TTable), .dat (Ty.int .i64)], fun args hp K => args3 (fun a0 a1 a2 => withD TBond a0 fun b => withD (Ty.sl TTable) a1 fun tables => withD (Ty.int .i64) a2 fun n => (Sm TBond b) ∧ (Sm (Ty.sl TTable) tables) ∧ ((M.tablesOk tables && M.bondOk tables b) = true) ∧ (0 ≤ n ∧ n < ((M.rowsIn tables b).length : Int)) ∧ K (.data Ty.bool (M.breaks tables b n)) []) args hp⟩
def cons64 : Cons := [(92, c92), (93, c93), (94, c94), (95, c95), (97, c97), (100, c100)]
def inl64 : List (Nat × Inl) := []
@[reducible] def C64 : Ctx := ⟨tab, fun t => memN t cmps, cons64, 63, inl64, 0⟩
theorem consOk64 : ConsOk P C64 := by
  refine consOk_cons (enter_ok (fn := Go.Proofs.Tryz.f92) Go.Proofs.Tryz.func92 (by kernel_rfl) rfl) con92_ok ?_
  refine consOk_cons (enter_ok (fn := Go.Proofs.Tryz.f93) Go.Proofs.Tryz.func93 (by kernel_rfl) rfl) con93_ok ?_
  refine consOk_cons (enter_ok (fn := Go.Proofs.Tryz.f94) Go.Proofs.Tryz.func94 (by kernel_rfl) rfl) con94_ok ?_
  refine consOk_cons (enter_ok (fn := Go.Proofs.Tryz.f95) Go.Proofs.Tryz.func95 (by kernel_rfl) rfl) con95_ok ?_
  refine consOk_cons (enter_ok (fn := Go.Proofs.Tryz.f97) Go.Proofs.Tryz.func97 (by kernel_rfl) rfl) con97_ok ?_
  refine consOk_cons (enter_ok (fn := Go.Proofs.Tryz.f100) Go.Proofs.Tryz.func100 (by kernel_rfl) rfl) con100_ok ?_
  exact consOk_nil
def ann64 : Nat → List Dir
  | 0 => [.fixRow 3 TBond, .keep [1, 2, 3]]
  | 1 => [.keep [1, 2, 3, 7]]
  | 2 => [.keep [1, 2, 3, 7, 21]]
  | 3 => [.keep [6]]
  | 4 => [.fixBox 8, .keep [1, 2, 3, 8]]
  | 5 => [.keep [1, 2, 3, 8, 33]]
  | 6 => [.keep [6]]
  | 7 => [.keep [1, 2, 3, 9]]
  | 8 => [.keep [1, 2, 3, 9, 37]]
  | 9 => [.keep [6]]
  | 10 => [.keep [6]]
  | _ => []
def L64 (b : (TBond).D) (tables : (List (TTable).D)) (n : Int) : Loops := fun id m st_ K => match id with
  | _ => False
theorem vc64 (b : (TBond).D) (tables : (List (TTable).D)) (n : Int) (K : AV → Hp → Prop) : awp C64 (L64 b tables n) ann64 (bodyOf Go.Proofs.Tryz.f64) ⟨argEnv 0 [.data TBond b, .data (Ty.sl TTable) tables, .data (Ty.int .i64) n], []⟩ (outK tab Go.Proofs.Tryz.f64.results.toList (hasBox []) (resK (.dat Ty.bool) K)) =
  ((0 ≤ b.2.1) ∧ (b.2.1 < (tables.length : Int)) ∧ (0 ≤ n) ∧ (n < ((((nth (t := TTable) tables b.2.1).2).1).length : Int)) ∧ cond (decide (b.1 = (3 : Int))) ((Sm (Ty.sl TValue) (nth (t := (Ty.sl TValue)) (((nth (t := TTable) tables b.2.1).2).1) n)) ∧ (Sm (Ty.sl TPart) b.2.2.2.2.2.2.1) ∧ (M.exprSafe (nth (t := (Ty.sl TValue)) (((nth (t := TTable) tables b.2.1).2).1) n).length b.2.2.2.2.2.2.1) ∧ (∀ r_3_3 : (TValue).D, r_3_3 = (M.exprValue (nth (t := (Ty.sl TValue)) (((nth (t := TTable) tables b.2.1).2).1) n) b.2.2.2.2.2.2.1) → (∀ r_3_4 : (TValue).D, r_3_4 = (M.valueOf (0 : Int)) → K (.data Ty.bool (Ty.beq TValue r_3_3 r_3_4)) []))) ((Sm (Ty.sl TValue) (nth (t := (Ty.sl TValue)) (((nth (t := TTable) tables b.2.1).2).1) n)) ∧ (Sm (Ty.sl (Ty.int .i64)) b.2.2.1) ∧ (M.inRow (nth (t := (Ty.sl TValue)) (((nth (t := TTable) tables b.2.1).2).1) n) b.2.2.1) ∧ (∀ r_4_3 : (List (TValue).D), r_4_3 = (M.taken (nth (t := (Ty.sl TValue)) (((nth (t := TTable) tables b.2.1).2).1) n) b.2.2.1) → (((Sm (Ty.sl TValue) r_4_3) ∧ cond (List.any r_4_3 (fun e => decide (e.1 = 0))) (K (.data Ty.bool false) []) (cond (decide (b.1 = (1 : Int))) ((0 ≤ b.2.1) ∧ (b.2.1 < (tables.length : Int)) ∧ (0 ≤ (0 : Int)) ∧ ((0 : Int) ≤ n) ∧ (n ≤ ((((nth (t := TTable) tables b.2.1).2).1).length : Int)) ∧ (n = n) ∧ (Sm (Ty.sl (Ty.int .i64)) b.2.2.1) ∧ (Sm (Ty.sl TValue) r_4_3) ∧ (∀ r_9_11 : (List Int) × (List (TValue).D), r_9_11 = ((b.2.2.1, r_4_3)) → (((Sm (Ty.sl (Ty.sl TValue)) (cutList (((nth (t := TTable) tables b.2.1).2).1) (some ((0 : Int), n)))) ∧ (Sm (Ty.sl (Ty.int .i64)) r_9_11.1) ∧ (Sm (Ty.sl TValue) r_9_11.2) ∧ (∀ e ∈ (cutList (((nth (t := TTable) tables b.2.1).2).1) (some ((0 : Int), n))), M.inRow e r_9_11.1) ∧ K (.data Ty.bool (List.any (cutList (((nth (t := TTable) tables b.2.1).2).1) (some ((0 : Int), n))) (fun e => decide (M.taken e r_9_11.1 = r_9_11.2)))) []) ∨ False))) ((0 ≤ b.2.2.2.1) ∧ (b.2.2.2.1 < (tables.length : Int)) ∧ (Sm (Ty.sl (Ty.int .i64)) b.2.2.2.2.1) ∧ (Sm (Ty.sl TValue) r_4_3) ∧ (∀ r_10_9 : (List Int) × (List (TValue).D), r_10_9 = ((b.2.2.2.2.1, r_4_3)) → (((Sm (Ty.sl (Ty.sl TValue)) (((nth (t := TTable) tables b.2.2.2.1).2).1)) ∧ (Sm (Ty.sl (Ty.int .i64)) r_10_9.1) ∧ (Sm (Ty.sl TValue) r_10_9.2) ∧ (∀ e ∈ (((nth (t := TTable) tables b.2.2.2.1).2).1), M.inRow e r_10_9.1) ∧ K (.data Ty.bool (!(List.any (((nth (t := TTable) tables b.2.2.2.1).2).1) (fun e => decide (M.taken e r_10_9.1 = r_10_9.2))))) []) ∨ False))))) ∨ False)))) := by kernel_rfl
theorem con64_ok : ConOk P 64 c64 := by
  refine con_okR (fn := Go.Proofs.Tryz.f64) (code := bodyOf Go.Proofs.Tryz.f64) (tab_ok tab_check cmp_check) consOk64 mixed Go.Proofs.Tryz.func64 rfl rfl fun args hp K h0 => ?_
  obtain ⟨a0, a1, a2, rfl, rfl, h1⟩ := args3_elim h0
  obtain ⟨b, rfl, h2⟩ := withD_elim h1
  obtain ⟨tables, rfl, h3⟩ := withD_elim h2
  obtain ⟨n, rfl, h4⟩ := withD_elim h3
  obtain ⟨h_b, h_tables, p0, p1, hK⟩ := h4
  have h : ok (F.impl_Bond_breaks b tables n) (fun r => K (.data Ty.bool r) []) := ok_of_eq (F.impl_Bond_breaks_eq b tables n h_b h_tables p0 p1) hK
  refine ⟨⟨show (3 : Nat) ≤ 63 by decide, show (3 : Nat) ≤ 1000000 by decide⟩, ann64, (L64 b tables n), (.dat Ty.bool), (no_loops (by kernel_rfl)), ?_⟩
  · rw [vc64 b tables n K]
    exact ⟨(ok_guard h).1, have g_1 := (ok_guard h).1; have h := (ok_guard h).2; ⟨(ok_guard h).1, have g_2 := (ok_guard h).1; have h := (ok_guard h).2; ⟨(ok_guard h).1, have g_3 := (ok_guard h).1; have h := (ok_guard h).2; ⟨(ok_guard h).1, have g_4 := (ok_guard h).1; have h := (ok_guard h).2; (ok_cond h (fun b_5 h => ⟨(sm_nth (sm_nth h_tables b.2.1).2.1 n), ⟨h_b.2.2.2.2.2.2.1, ⟨(ok_guard h).1, have g_6 := (ok_guard h).1; have h := (ok_guard h).2; (fun r_3_3 e_r_3_3 => have h := ok_let h r_3_3 e_r_3_3; (fun r_3_4 e_r_3_4 => have h := ok_let h r_3_4 e_r_3_4; (have h := ok_ret h; h)))⟩⟩⟩) (fun b_5 h => ⟨(sm_nth (sm_nth h_tables b.2.1).2.1 n), ⟨h_b.2.2.1, ⟨(ok_guard h).1, have g_7 := (ok_guard h).1; have h := (ok_guard h).2; (fun r_4_3 e_r_4_3 => have h := ok_let h r_4_3 e_r_4_3; (Or.inl (⟨(sm_of_eq e_r_4_3 (M.taken_sm (sm_nth (sm_nth h_tables b.2.1).2.1 n) h_b.2.2.1)), (ok_cond h (fun b_8 h => (have h := ok_ret h; h)) (fun b_8 h => (ok_cond h (fun b_9 h => ⟨g_1, ⟨g_2, ⟨(Int.natCast_nonneg 0), ⟨(ok_guard h).1, have g_10 := (ok_guard h).1; have h := (ok_guard h).2; ⟨(ok_guard h).1, have g_11 := (ok_guard h).1; have h := (ok_guard h).2; ⟨rfl, ⟨h_b.2.2.1, ⟨(sm_of_eq e_r_4_3 (M.taken_sm (sm_nth (sm_nth h_tables b.2.1).2.1 n) h_b.2.2.1)), (fun r_9_11 e_r_9_11 => have h := ok_let h r_9_11 e_r_9_11; (Or.inl (⟨(sm_cut (sm_nth h_tables b.2.1).2.1 _), ⟨(by rw [e_r_9_11]; exact h_b.2.2.1), ⟨(by rw [e_r_9_11]; exact (sm_of_eq e_r_4_3 (M.taken_sm (sm_nth (sm_nth h_tables b.2.1).2.1 n) h_b.2.2.1))), ⟨(ok_guard h).1, have g_12 := (ok_guard h).1; have h := (ok_guard h).2; (have h := ok_ret h; h)⟩⟩⟩⟩)))⟩⟩⟩⟩⟩⟩⟩⟩) (fun b_9 h => ⟨(ok_guard h).1, have g_13 := (ok_guard h).1; have h := (ok_guard h).2; ⟨(ok_guard h).1, have g_14 := (ok_guard h).1; have h := (ok_guard h).2; ⟨h_b.2.2.2.2.1, ⟨(sm_of_eq e_r_4_3 (M.taken_sm (sm_nth (sm_nth h_tables b.2.1).2.1 n) h_b.2.2.1)), (fun r_10_9 e_r_10_9 => have h := ok_let h r_10_9 e_r_10_9; (Or.inl (⟨(sm_nth h_tables b.2.2.2.1).2.1, ⟨(by rw [e_r_10_9]; exact h_b.2.2.2.2.1), ⟨(by rw [e_r_10_9]; exact (sm_of_eq e_r_4_3 (M.taken_sm (sm_nth (sm_nth h_tables b.2.1).2.1 n) h_b.2.2.1))), ⟨(ok_guard h).1, have g_15 := (ok_guard h).1; have h := (ok_guard h).2; (have h := ok_ret h; h)⟩⟩⟩⟩)))⟩⟩⟩⟩))))⟩)))⟩⟩⟩))⟩⟩⟩⟩

/-! 30: (loop.example/tablehouse/impl.Bond).broken -/
def c30 : Con := ⟨[.dat TBond, .dat (Ty.sl TTable)], fun args hp K => args2 (fun a0 a1 => withD TBond a0 fun b => withD (Ty.sl TTable) a1 fun tables => (Sm TBond b) ∧ (Sm (Ty.sl TTable) tables) ∧ ((M.tablesOk tables && M.bondOk tables b) = true) ∧ K (.data (Ty.int .i64) (M.broken tables b)) []) args hp⟩
def cons30 : Cons := [(64, c64)]
def inl30 : List (Nat × Inl) := []
@[reducible] def C30 : Ctx := ⟨tab, fun t => memN t cmps, cons30, 22, inl30, 0⟩
theorem consOk30 : ConsOk P C30 := by
  refine consOk_cons (enter_ok (fn := Go.Proofs.Tryz.f64) Go.Proofs.Tryz.func64 (by kernel_rfl) rfl) con64_ok ?_
  exact consOk_nil
def ann30 : Nat → List Dir
  | 0 => [.fixRow 2 TBond, .keep [1, 2]]
  | 1 => [.keep [1, 2, 12, 13]]
  | 2 => [.keep [1, 2, 12, 13, 14]]
  | 3 => [.keep [1, 2, 5, 12, 13]]
  | 4 => [.keep [1, 2, 5, 12, 13, 19]]
  | 5 => [.keep [4]]
  | 6 => [.keep [1, 2, 12, 13]]
  | 7 => [.keep [4]]
  | 100000 => [.keep []]
  | _ => []
@[reducible] def LP30_0 (b : (TBond).D) (tables : (List (TTable).D)) (m : Nat) (st_ : St) (K : X → St → Prop) : Prop := (True) ∧ LoopI (fun (i0 : Int) (v0 : Unit) => (⟨[(1, .data (Ty.sl TTable) tables), (2, .adr TBond b), (12, .data (Ty.int .i64) ((((nth (t := TTable) tables b.2.1).2).1).length : Int)), (13, .data (Ty.int .i64) i0)], []⟩ : St)) (0 : Int) ((((nth (t := TTable) tables b.2.1).2).1).length : Int) (F.impl_Bond_broken_l0 b tables) (fun v0 : Unit => True) (outD (fun v0 : Unit => True → K (.exit 0) (⟨[], []⟩ : St)) (fun q0 : Int => K .ret (⟨[(4, .data (Ty.int .i64) q0)], []⟩ : St))) m st_
def L30 (b : (TBond).D) (tables : (List (TTable).D)) : Loops := fun id m st_ K => match id with
  | 0 => LP30_0 b tables m st_ K
  | _ => False
theorem vc30 (b : (TBond).D) (tables : (List (TTable).D)) (K : AV → Hp → Prop) : awp C30 (L30 b tables) ann30 (bodyOf Go.Proofs.Tryz.f30) ⟨argEnv 0 [.data TBond b, .data (Ty.sl TTable) tables], []⟩ (outK tab Go.Proofs.Tryz.f30.results.toList (hasBox []) (resK (.dat (Ty.int .i64)) K)) =
  ((0 ≤ b.2.1) ∧ (b.2.1 < (tables.length : Int)) ∧ (∃ m_, (True) ∧ LoopI (fun (i0 : Int) (v0 : Unit) => (⟨[(1, .data (Ty.sl TTable) tables), (2, .adr TBond b), (12, .data (Ty.int .i64) ((((nth (t := TTable) tables b.2.1).2).1).length : Int)), (13, .data (Ty.int .i64) i0)], []⟩ : St)) (0 : Int) ((((nth (t := TTable) tables b.2.1).2).1).length : Int) (F.impl_Bond_broken_l0 b tables) (fun v0 : Unit => True) (outD (fun v0 : Unit => True → K (.data (Ty.int .i64) (-1 : Int)) []) (fun q0 : Int => K (.data (Ty.int .i64) q0) [])) m_ (⟨[(1, .data (Ty.sl TTable) tables), (2, .adr TBond b), (12, .data (Ty.int .i64) ((((nth (t := TTable) tables b.2.1).2).1).length : Int)), (13, .data (Ty.int .i64) (0 : Int))], []⟩ : St))) := by kernel_rfl
theorem lvc30_0 (b : (TBond).D) (tables : (List (TTable).D))  (i0 : Int) (v0 : Unit) (m : Nat) (K : X → St → Prop) : awp C30 (L30 b tables) ann30 (loopAt (bodyOf Go.Proofs.Tryz.f30) 0) (⟨[(1, .data (Ty.sl TTable) tables), (2, .adr TBond b), (12, .data (Ty.int .i64) ((((nth (t := TTable) tables b.2.1).2).1).length : Int)), (13, .data (Ty.int .i64) i0)], []⟩ : St) (thenW (fun s' => ∃ m', m' < m ∧ (L30 b tables) 0 m' s' K) (exitN 0 (ann30 (behind 0)) K)) =
  (cond (decide (i0 < ((((nth (t := TTable) tables b.2.1).2).1).length : Int))) ((Sm TBond b) ∧ (Sm (Ty.sl TTable) tables) ∧ ((M.tablesOk tables && M.bondOk tables b) = true) ∧ (0 ≤ i0 ∧ i0 < ((M.rowsIn tables b).length : Int)) ∧ cond (M.breaks tables b i0) (K .ret (⟨[(4, .data (Ty.int .i64) i0)], []⟩ : St)) ((∃ m_, m_ < m ∧ (L30 b tables) 0 m_ (⟨[(1, .data (Ty.sl TTable) tables), (2, .adr TBond b), (12, .data (Ty.int .i64) ((((nth (t := TTable) tables b.2.1).2).1).length : Int)), (13, .data (Ty.int .i64) (wrap64 (i0 + (1 : Int))))], []⟩ : St) K))) (K (.exit 0) (⟨[], []⟩ : St))) := by kernel_rfl
theorem con30_ok : ConOk P 30 c30 := by
  refine con_okR (fn := Go.Proofs.Tryz.f30) (code := bodyOf Go.Proofs.Tryz.f30) (tab_ok tab_check cmp_check) consOk30 mixed Go.Proofs.Tryz.func30 rfl rfl fun args hp K h0 => ?_
  obtain ⟨a0, a1, rfl, rfl, h1⟩ := args2_elim h0
  obtain ⟨b, rfl, h2⟩ := withD_elim h1
  obtain ⟨tables, rfl, h3⟩ := withD_elim h2
  obtain ⟨h_b, h_tables, p0, hK⟩ := h3
  have h : ok (F.impl_Bond_broken b tables) (fun r => K (.data (Ty.int .i64) r) []) := ok_of_eq (F.impl_Bond_broken_eq b tables h_b h_tables p0) hK
  refine ⟨⟨show (2 : Nat) ≤ 22 by decide, show (2 : Nat) ≤ 1000000 by decide⟩, ann30, (L30 b tables), (.dat (Ty.int .i64)), (loopsN1 (i0 := 0) (by kernel_rfl) ?_), ?_⟩
  · clear h
    intro m_ s_ K_ h
    obtain ⟨hc0, i0, v0, rfl, hl0, rfl, hv0, h⟩ := (show LP30_0 b tables m_ s_ K_ from h)
    rw [lvc30_0 b tables i0 v0 _ K_]
    exact (loopI_step h (fun ht0 h => ⟨h_b, ⟨h_tables, ⟨(ok_guard h).1, have g_12 := (ok_guard h).1; have h := (ok_guard h).2; ⟨(ok_guard h).1, have g_13 := (ok_guard h).1; have h := (ok_guard h).2; (ok_cond h (fun b_14 h => (have h := ok_ret h; h)) (fun b_14 h => (loopI_next (fun m hm => (show LP30_0 b tables m _ _ from ⟨hc0, hm⟩)) () rfl hl0 low0 ht0 (sm_len (sm_nth h_tables b.2.1).2.1) trivial (have h := ok_ret h; h))))⟩⟩⟩⟩) (fun h => (h trivial)))
  · rw [vc30 b tables K]
    exact ⟨(ok_guard h).1, have g_1 := (ok_guard h).1; have h := (ok_guard h).2; ⟨(ok_guard h).1, have g_2 := (ok_guard h).1; have h := (ok_guard h).2; (loopI_start (fun m hm => ⟨trivial, hm⟩) (0 : Int) () rfl (Int.natCast_nonneg 0) trivial (ok_then h (fun v0 h hv0 => (have h := ok_ret h; h)) (fun q0 h => (have h := ok_ret h; h))))⟩⟩

/-! 10: loop.example/tablehouse/impl.BondBroken -/
def c10 : Con := ⟨[.dat (Ty.sl TTable), .dat TBond], fun args hp K => args2 (fun a0 a1 => withD (Ty.sl TTable) a0 fun tables => withD TBond a1 fun b => (Sm (Ty.sl TTable) tables) ∧ (Sm TBond b) ∧ K (.data (Ty.int .i64) (M.bondBroken tables b)) []) args hp⟩
def cons10 : Cons := [(29, c29), (30, c30)]
def inl10 : List (Nat × Inl) := []
@[reducible] def C10 : Ctx := ⟨tab, fun t => memN t cmps, cons10, 12, inl10, 0⟩
theorem consOk10 : ConsOk P C10 := by
  refine consOk_cons (enter_ok (fn := Go.Proofs.Tryz.f29) Go.Proofs.Tryz.func29 (by kernel_rfl) rfl) con29_ok ?_
  refine consOk_cons (enter_ok (fn := Go.Proofs.Tryz.f30) Go.Proofs.Tryz.func30 (by kernel_rfl) rfl) con30_ok ?_
  exact consOk_nil
def ann10 : Nat → List Dir
  | 0 => [.fixRow 3 TBond, .keep [0, 3]]
  | 1 => [.keep [0, 3, 8]]
  | 2 => [.keep [4]]
  | 3 => [.keep [4]]
  | _ => []
def L10 (tables : (List (TTable).D)) (b : (TBond).D) : Loops := fun id m st_ K => match id with
  | _ => False
theorem vc10 (tables : (List (TTable).D)) (b : (TBond).D) (K : AV → Hp → Prop) : awp C10 (L10 tables b) ann10 (bodyOf Go.Proofs.Tryz.f10) ⟨argEnv 0 [.data (Ty.sl TTable) tables, .data TBond b], []⟩ (outK tab Go.Proofs.Tryz.f10.results.toList (hasBox []) (resK (.dat (Ty.int .i64)) K)) =
  ((Sm (Ty.sl TTable) tables) ∧ (Sm TBond b) ∧ cond (!(M.tablesOk tables && M.bondOk tables b)) (K (.data (Ty.int .i64) (-2 : Int)) []) ((Sm TBond b) ∧ (Sm (Ty.sl TTable) tables) ∧ ((M.tablesOk tables && M.bondOk tables b) = true) ∧ K (.data (Ty.int .i64) (M.broken tables b)) [])) := by kernel_rfl
theorem con10_ok : ConOk P 10 c10 := by
  refine con_okR (fn := Go.Proofs.Tryz.f10) (code := bodyOf Go.Proofs.Tryz.f10) (tab_ok tab_check cmp_check) consOk10 mixed Go.Proofs.Tryz.func10 rfl rfl fun args hp K h0 => ?_
  obtain ⟨a0, a1, rfl, rfl, h1⟩ := args2_elim h0
  obtain ⟨tables, rfl, h2⟩ := withD_elim h1
  obtain ⟨b, rfl, h3⟩ := withD_elim h2
  obtain ⟨h_tables, h_b, hK⟩ := h3
  have h : ok (F.impl_BondBroken tables b) (fun r => K (.data (Ty.int .i64) r) []) := ok_of_eq (F.impl_BondBroken_eq tables b h_tables h_b) hK
  refine ⟨⟨show (2 : Nat) ≤ 12 by decide, show (2 : Nat) ≤ 1000000 by decide⟩, ann10, (L10 tables b), (.dat (Ty.int .i64)), (no_loops (by kernel_rfl)), ?_⟩
  · rw [vc10 tables b K]
    exact ⟨h_tables, ⟨h_b, (ok_cond h (fun b_1 h => (have h := ok_ret h; h)) (fun b_1 h => ⟨h_b, ⟨h_tables, ⟨(bnf b_1), (have h := ok_ret h; h)⟩⟩⟩))⟩⟩

/-! 101: loop.example/tablehouse/laws.eqColumn -/
def c101 : Con := ⟨[.dat TColumn, .dat TColumn], fun args hp K => args2 (fun a0 a1 => withD TColumn a0 fun x => withD TColumn a1 fun y => (x = y) ∧ K (.data Ty.bool (true)) []) args hp⟩
def cons101 : Cons := []
def inl101 : List (Nat × Inl) := []
@[reducible] def C101 : Ctx := ⟨tab, fun t => memN t cmps, cons101, 15, inl101, 0⟩
theorem consOk101 : ConsOk P C101 := by
  exact consOk_nil
def ann101 : Nat → List Dir
  | 0 => [.fixRow 2 TColumn, .fixRow 3 TColumn, .keep [2, 3]]
  | 1 => [.keep [2, 3, 9]]
  | 2 => [.keep [4]]
  | 3 => [.keep [14]]
  | 4 => [.keep [4]]
  | 5 => [.keep [4]]
  | _ => []
def L101 (x : (TColumn).D) (y : (TColumn).D) : Loops := fun id m st_ K => match id with
  | _ => False
theorem vc101 (x : (TColumn).D) (y : (TColumn).D) (K : AV → Hp → Prop) : awp C101 (L101 x y) ann101 (bodyOf Go.Proofs.Tryz.f101) ⟨argEnv 0 [.data TColumn x, .data TColumn y], []⟩ (outK tab Go.Proofs.Tryz.f101.results.toList (hasBox []) (resK (.dat Ty.bool) K)) =
  (cond (!decide (x.1 = y.1)) (K (.data Ty.bool false) []) (cond (!(Ty.beq Ty.bool x.2.1 y.2.1)) (K (.data Ty.bool false) []) (K (.data Ty.bool true) []))) := by kernel_rfl
theorem con101_ok : ConOk P 101 c101 := by
  refine con_okR (fn := Go.Proofs.Tryz.f101) (code := bodyOf Go.Proofs.Tryz.f101) (tab_ok tab_check cmp_check) consOk101 mixed Go.Proofs.Tryz.func101 rfl rfl fun args hp K h0 => ?_
  obtain ⟨a0, a1, rfl, rfl, h1⟩ := args2_elim h0
  obtain ⟨x, rfl, h2⟩ := withD_elim h1
  obtain ⟨y, rfl, h3⟩ := withD_elim h2
  obtain ⟨p0, hK⟩ := h3
  have h : ok (F.laws_eqColumn x y) (fun r => K (.data Ty.bool r) []) := ok_of_eq (F.laws_eqColumn_eq x y p0) hK
  refine ⟨⟨show (2 : Nat) ≤ 15 by decide, show (2 : Nat) ≤ 1000000 by decide⟩, ann101, (L101 x y), (.dat Ty.bool), (no_loops (by kernel_rfl)), ?_⟩
  · rw [vc101 x y K]
    exact (ok_cond h (fun b_1 h => (have h := ok_ret h; h)) (fun b_1 h => (ok_cond h (fun b_2 h => (have h := ok_ret h; h)) (fun b_2 h => (have h := ok_ret h; h)))))

/-! 65: loop.example/tablehouse/laws.eqColumnS -/
def c65 : Con := ⟨[.dat (Ty.sl TColumn), .dat (Ty.sl TColumn)], fun args hp K => args2 (fun a0 a1 => withD (Ty.sl TColumn) a0 fun x => withD (Ty.sl TColumn) a1 fun y => (Sm (Ty.sl TColumn) x) ∧ (Sm (Ty.sl TColumn) y) ∧ (x = y) ∧ K (.data Ty.bool (true)) []) args hp⟩
def cons65 : Cons := [(101, c101)]
def inl65 : List (Nat × Inl) := []
@[reducible] def C65 : Ctx := ⟨tab, fun t => memN t cmps, cons65, 27, inl65, 0⟩
theorem consOk65 : ConsOk P C65 := by
  refine consOk_cons (enter_ok (fn := Go.Proofs.Tryz.f101) Go.Proofs.Tryz.func101 (by kernel_rfl) rfl) con101_ok ?_
  exact consOk_nil
def ann65 : Nat → List Dir
  | 0 => [.keep [0, 1]]
  | 1 => [.keep [0, 1, 10]]
  | 2 => [.keep [4]]
  | 3 => [.keep [0, 1, 5]]
  | 4 => [.keep [0, 1, 5, 14]]
  | 5 => [.keep [0, 1, 5]]
  | 6 => [.keep [0, 1, 5, 26]]
  | 7 => [.keep [4]]
  | 8 => [.keep [4]]
  | 100000 => [.keep []]
  | _ => []
@[reducible] def LP65_0 (x : (List (TColumn).D)) (y : (List (TColumn).D)) (m : Nat) (st_ : St) (K : X → St → Prop) : Prop := (True) ∧ LoopI (fun (i0 : Int) (v0 : Unit) => (⟨[(0, .data (Ty.sl TColumn) x), (1, .data (Ty.sl TColumn) y), (5, .data (Ty.int .i64) i0)], []⟩ : St)) (0 : Int) (x.length : Int) (F.laws_eqColumnS_l0 x y) (fun v0 : Unit => True) (outD (fun v0 : Unit => True → K (.exit 0) (⟨[], []⟩ : St)) (fun q0 : Unit => K .ret (⟨[(4, .data Ty.bool false)], []⟩ : St))) m st_
def L65 (x : (List (TColumn).D)) (y : (List (TColumn).D)) : Loops := fun id m st_ K => match id with
  | 0 => LP65_0 x y m st_ K
  | _ => False
theorem vc65 (x : (List (TColumn).D)) (y : (List (TColumn).D)) (K : AV → Hp → Prop) : awp C65 (L65 x y) ann65 (bodyOf Go.Proofs.Tryz.f65) ⟨argEnv 0 [.data (Ty.sl TColumn) x, .data (Ty.sl TColumn) y], []⟩ (outK tab Go.Proofs.Tryz.f65.results.toList (hasBox []) (resK (.dat Ty.bool) K)) =
  (cond (!decide ((x.length : Int) = (y.length : Int))) (K (.data Ty.bool false) []) ((∃ m_, (True) ∧ LoopI (fun (i0 : Int) (v0 : Unit) => (⟨[(0, .data (Ty.sl TColumn) x), (1, .data (Ty.sl TColumn) y), (5, .data (Ty.int .i64) i0)], []⟩ : St)) (0 : Int) (x.length : Int) (F.laws_eqColumnS_l0 x y) (fun v0 : Unit => True) (outD (fun v0 : Unit => True → K (.data Ty.bool true) []) (fun q0 : Unit => K (.data Ty.bool false) [])) m_ (⟨[(0, .data (Ty.sl TColumn) x), (1, .data (Ty.sl TColumn) y), (5, .data (Ty.int .i64) (0 : Int))], []⟩ : St)))) := by kernel_rfl
theorem lvc65_0 (x : (List (TColumn).D)) (y : (List (TColumn).D))  (i0 : Int) (v0 : Unit) (m : Nat) (K : X → St → Prop) : awp C65 (L65 x y) ann65 (loopAt (bodyOf Go.Proofs.Tryz.f65) 0) (⟨[(0, .data (Ty.sl TColumn) x), (1, .data (Ty.sl TColumn) y), (5, .data (Ty.int .i64) i0)], []⟩ : St) (thenW (fun s' => ∃ m', m' < m ∧ (L65 x y) 0 m' s' K) (exitN 0 (ann65 (behind 0)) K)) =
  (cond (decide (i0 < (x.length : Int))) ((0 ≤ i0) ∧ (i0 < (x.length : Int)) ∧ (0 ≤ i0) ∧ (i0 < (y.length : Int)) ∧ ((nth (t := TColumn) x i0) = (nth (t := TColumn) y i0)) ∧ cond (!(true)) (K .ret (⟨[(4, .data Ty.bool false)], []⟩ : St)) ((∃ m_, m_ < m ∧ (L65 x y) 0 m_ (⟨[(0, .data (Ty.sl TColumn) x), (1, .data (Ty.sl TColumn) y), (5, .data (Ty.int .i64) (wrap64 (i0 + (1 : Int))))], []⟩ : St) K))) (K (.exit 0) (⟨[], []⟩ : St))) := by kernel_rfl
theorem con65_ok : ConOk P 65 c65 := by
  refine con_okR (fn := Go.Proofs.Tryz.f65) (code := bodyOf Go.Proofs.Tryz.f65) (tab_ok tab_check cmp_check) consOk65 mixed Go.Proofs.Tryz.func65 rfl rfl fun args hp K h0 => ?_
  obtain ⟨a0, a1, rfl, rfl, h1⟩ := args2_elim h0
  obtain ⟨x, rfl, h2⟩ := withD_elim h1
  obtain ⟨y, rfl, h3⟩ := withD_elim h2
  obtain ⟨h_x, h_y, p0, hK⟩ := h3
  have h : ok (F.laws_eqColumnS x y) (fun r => K (.data Ty.bool r) []) := ok_of_eq (F.laws_eqColumnS_eq x y h_x h_y p0) hK
  refine ⟨⟨show (2 : Nat) ≤ 27 by decide, show (2 : Nat) ≤ 1000000 by decide⟩, ann65, (L65 x y), (.dat Ty.bool), (loopsN1 (i0 := 0) (by kernel_rfl) ?_), ?_⟩
  · clear h
    intro m_ s_ K_ h
    obtain ⟨hc0, i0, v0, rfl, hl0, rfl, hv0, h⟩ := (show LP65_0 x y m_ s_ K_ from h)
    rw [lvc65_0 x y i0 v0 _ K_]
    exact (loopI_step h (fun ht0 h => ⟨hl0, ⟨ht0, ⟨hl0, ⟨(ok_guard h).1, have g_14 := (ok_guard h).1; have h := (ok_guard h).2; ⟨(ok_guard h).1, have g_15 := (ok_guard h).1; have h := (ok_guard h).2; (ok_cond h (fun b_16 h => (have h := ok_ret h; h)) (fun b_16 h => (loopI_next (fun m hm => (show LP65_0 x y m _ _ from ⟨hc0, hm⟩)) () rfl hl0 low0 ht0 (sm_len h_x) trivial (have h := ok_ret h; h))))⟩⟩⟩⟩⟩) (fun h => (h trivial)))
  · rw [vc65 x y K]
    exact (ok_cond h (fun b_1 h => (have h := ok_ret h; h)) (fun b_1 h => (loopI_start (fun m hm => ⟨trivial, hm⟩) (0 : Int) () rfl (Int.natCast_nonneg 0) trivial (ok_then h (fun v0 h hv0 => (have h := ok_ret h; h)) (fun q0 h => (have h := ok_ret h; h))))))

/-! 103: loop.example/tablehouse/laws.eqValue -/
def c103 : Con := ⟨[.dat TValue, .dat TValue], fun args hp K => args2 (fun a0 a1 => withD TValue a0 fun x => withD TValue a1 fun y => (Sm TValue x) ∧ (Sm TValue y) ∧ (x = y) ∧ K (.data Ty.bool (true)) []) args hp⟩
def cons103 : Cons := []
def inl103 : List (Nat × Inl) := []
@[reducible] def C103 : Ctx := ⟨tab, fun t => memN t cmps, cons103, 20, inl103, 0⟩
theorem consOk103 : ConsOk P C103 := by
  exact consOk_nil
def ann103 : Nat → List Dir
  | 0 => [.fixRow 2 TValue, .fixRow 3 TValue, .keep [2, 3]]
  | 1 => [.keep [2, 3, 9]]
  | 2 => [.keep [4]]
  | 3 => [.keep [2, 3, 14]]
  | 4 => [.keep [4]]
  | 5 => [.keep [19]]
  | 6 => [.keep [4]]
  | 7 => [.keep [4]]
  | _ => []
def L103 (x : (TValue).D) (y : (TValue).D) : Loops := fun id m st_ K => match id with
  | _ => False
theorem vc103 (x : (TValue).D) (y : (TValue).D) (K : AV → Hp → Prop) : awp C103 (L103 x y) ann103 (bodyOf Go.Proofs.Tryz.f103) ⟨argEnv 0 [.data TValue x, .data TValue y], []⟩ (outK tab Go.Proofs.Tryz.f103.results.toList (hasBox []) (resK (.dat Ty.bool) K)) =
  (cond (!decide (x.1 = y.1)) (K (.data Ty.bool false) []) (cond (!decide (x.2.1 = y.2.1)) (K (.data Ty.bool false) []) (cond (!decide (x.2.2.1 = y.2.2.1)) (K (.data Ty.bool false) []) (K (.data Ty.bool true) [])))) := by kernel_rfl
theorem con103_ok : ConOk P 103 c103 := by
  refine con_okR (fn := Go.Proofs.Tryz.f103) (code := bodyOf Go.Proofs.Tryz.f103) (tab_ok tab_check cmp_check) consOk103 mixed Go.Proofs.Tryz.func103 rfl rfl fun args hp K h0 => ?_
  obtain ⟨a0, a1, rfl, rfl, h1⟩ := args2_elim h0
  obtain ⟨x, rfl, h2⟩ := withD_elim h1
  obtain ⟨y, rfl, h3⟩ := withD_elim h2
  obtain ⟨h_x, h_y, p0, hK⟩ := h3
  have h : ok (F.laws_eqValue x y) (fun r => K (.data Ty.bool r) []) := ok_of_eq (F.laws_eqValue_eq x y h_x h_y p0) hK
  refine ⟨⟨show (2 : Nat) ≤ 20 by decide, show (2 : Nat) ≤ 1000000 by decide⟩, ann103, (L103 x y), (.dat Ty.bool), (no_loops (by kernel_rfl)), ?_⟩
  · rw [vc103 x y K]
    exact (ok_cond h (fun b_1 h => (have h := ok_ret h; h)) (fun b_1 h => (ok_cond h (fun b_2 h => (have h := ok_ret h; h)) (fun b_2 h => (ok_cond h (fun b_3 h => (have h := ok_ret h; h)) (fun b_3 h => (have h := ok_ret h; h)))))))

/-! 102: loop.example/tablehouse/laws.eqValueS -/
def c102 : Con := ⟨[.dat (Ty.sl TValue), .dat (Ty.sl TValue)], fun args hp K => args2 (fun a0 a1 => withD (Ty.sl TValue) a0 fun x => withD (Ty.sl TValue) a1 fun y => (Sm (Ty.sl TValue) x) ∧ (Sm (Ty.sl TValue) y) ∧ (x = y) ∧ K (.data Ty.bool (true)) []) args hp⟩
def cons102 : Cons := [(103, c103)]
def inl102 : List (Nat × Inl) := []
@[reducible] def C102 : Ctx := ⟨tab, fun t => memN t cmps, cons102, 27, inl102, 0⟩
theorem consOk102 : ConsOk P C102 := by
  refine consOk_cons (enter_ok (fn := Go.Proofs.Tryz.f103) Go.Proofs.Tryz.func103 (by kernel_rfl) rfl) con103_ok ?_
  exact consOk_nil
def ann102 : Nat → List Dir
  | 0 => [.keep [0, 1]]
  | 1 => [.keep [0, 1, 10]]
  | 2 => [.keep [4]]
  | 3 => [.keep [0, 1, 5]]
  | 4 => [.keep [0, 1, 5, 14]]
  | 5 => [.keep [0, 1, 5]]
  | 6 => [.keep [0, 1, 5, 26]]
  | 7 => [.keep [4]]
  | 8 => [.keep [4]]
  | 100000 => [.keep []]
  | _ => []
@[reducible] def LP102_0 (x : (List (TValue).D)) (y : (List (TValue).D)) (m : Nat) (st_ : St) (K : X → St → Prop) : Prop := (True) ∧ LoopI (fun (i0 : Int) (v0 : Unit) => (⟨[(0, .data (Ty.sl TValue) x), (1, .data (Ty.sl TValue) y), (5, .data (Ty.int .i64) i0)], []⟩ : St)) (0 : Int) (x.length : Int) (F.laws_eqValueS_l0 x y) (fun v0 : Unit => True) (outD (fun v0 : Unit => True → K (.exit 0) (⟨[], []⟩ : St)) (fun q0 : Unit => K .ret (⟨[(4, .data Ty.bool false)], []⟩ : St))) m st_
def L102 (x : (List (TValue).D)) (y : (List (TValue).D)) : Loops := fun id m st_ K => match id with
  | 0 => LP102_0 x y m st_ K
  | _ => False
theorem vc102 (x : (List (TValue).D)) (y : (List (TValue).D)) (K : AV → Hp → Prop) : awp C102 (L102 x y) ann102 (bodyOf Go.Proofs.Tryz.f102) ⟨argEnv 0 [.data (Ty.sl TValue) x, .data (Ty.sl TValue) y], []⟩ (outK tab Go.Proofs.Tryz.f102.results.toList (hasBox []) (resK (.dat Ty.bool) K)) =
  (cond (!decide ((x.length : Int) = (y.length : Int))) (K (.data Ty.bool false) []) ((∃ m_, (True) ∧ LoopI (fun (i0 : Int) (v0 : Unit) => (⟨[(0, .data (Ty.sl TValue) x), (1, .data (Ty.sl TValue) y), (5, .data (Ty.int .i64) i0)], []⟩ : St)) (0 : Int) (x.length : Int) (F.laws_eqValueS_l0 x y) (fun v0 : Unit => True) (outD (fun v0 : Unit => True → K (.data Ty.bool true) []) (fun q0 : Unit => K (.data Ty.bool false) [])) m_ (⟨[(0, .data (Ty.sl TValue) x), (1, .data (Ty.sl TValue) y), (5, .data (Ty.int .i64) (0 : Int))], []⟩ : St)))) := by kernel_rfl
theorem lvc102_0 (x : (List (TValue).D)) (y : (List (TValue).D))  (i0 : Int) (v0 : Unit) (m : Nat) (K : X → St → Prop) : awp C102 (L102 x y) ann102 (loopAt (bodyOf Go.Proofs.Tryz.f102) 0) (⟨[(0, .data (Ty.sl TValue) x), (1, .data (Ty.sl TValue) y), (5, .data (Ty.int .i64) i0)], []⟩ : St) (thenW (fun s' => ∃ m', m' < m ∧ (L102 x y) 0 m' s' K) (exitN 0 (ann102 (behind 0)) K)) =
  (cond (decide (i0 < (x.length : Int))) ((0 ≤ i0) ∧ (i0 < (x.length : Int)) ∧ (0 ≤ i0) ∧ (i0 < (y.length : Int)) ∧ (Sm TValue (nth (t := TValue) x i0)) ∧ (Sm TValue (nth (t := TValue) y i0)) ∧ ((nth (t := TValue) x i0) = (nth (t := TValue) y i0)) ∧ cond (!(true)) (K .ret (⟨[(4, .data Ty.bool false)], []⟩ : St)) ((∃ m_, m_ < m ∧ (L102 x y) 0 m_ (⟨[(0, .data (Ty.sl TValue) x), (1, .data (Ty.sl TValue) y), (5, .data (Ty.int .i64) (wrap64 (i0 + (1 : Int))))], []⟩ : St) K))) (K (.exit 0) (⟨[], []⟩ : St))) := by kernel_rfl
theorem con102_ok : ConOk P 102 c102 := by
  refine con_okR (fn := Go.Proofs.Tryz.f102) (code := bodyOf Go.Proofs.Tryz.f102) (tab_ok tab_check cmp_check) consOk102 mixed Go.Proofs.Tryz.func102 rfl rfl fun args hp K h0 => ?_
  obtain ⟨a0, a1, rfl, rfl, h1⟩ := args2_elim h0
  obtain ⟨x, rfl, h2⟩ := withD_elim h1
  obtain ⟨y, rfl, h3⟩ := withD_elim h2
  obtain ⟨h_x, h_y, p0, hK⟩ := h3
  have h : ok (F.laws_eqValueS x y) (fun r => K (.data Ty.bool r) []) := ok_of_eq (F.laws_eqValueS_eq x y h_x h_y p0) hK
  refine ⟨⟨show (2 : Nat) ≤ 27 by decide, show (2 : Nat) ≤ 1000000 by decide⟩, ann102, (L102 x y), (.dat Ty.bool), (loopsN1 (i0 := 0) (by kernel_rfl) ?_), ?_⟩
  · clear h
    intro m_ s_ K_ h
    obtain ⟨hc0, i0, v0, rfl, hl0, rfl, hv0, h⟩ := (show LP102_0 x y m_ s_ K_ from h)
    rw [lvc102_0 x y i0 v0 _ K_]
    exact (loopI_step h (fun ht0 h => ⟨hl0, ⟨ht0, ⟨hl0, ⟨(ok_guard h).1, have g_14 := (ok_guard h).1; have h := (ok_guard h).2; ⟨(sm_nth h_x i0), ⟨(sm_nth h_y i0), ⟨(ok_guard h).1, have g_15 := (ok_guard h).1; have h := (ok_guard h).2; (ok_cond h (fun b_16 h => (have h := ok_ret h; h)) (fun b_16 h => (loopI_next (fun m hm => (show LP102_0 x y m _ _ from ⟨hc0, hm⟩)) () rfl hl0 low0 ht0 (sm_len h_x) trivial (have h := ok_ret h; h))))⟩⟩⟩⟩⟩⟩⟩) (fun h => (h trivial)))
  · rw [vc102 x y K]
    exact (ok_cond h (fun b_1 h => (have h := ok_ret h; h)) (fun b_1 h => (loopI_start (fun m hm => ⟨trivial, hm⟩) (0 : Int) () rfl (Int.natCast_nonneg 0) trivial (ok_then h (fun v0 h hv0 => (have h := ok_ret h; h)) (fun q0 h => (have h := ok_ret h; h))))))

/-! 66: loop.example/tablehouse/laws.eqValueSS -/
def c66 : Con := ⟨[.dat (Ty.sl (Ty.sl TValue)), .dat (Ty.sl (Ty.sl TValue))], fun args hp K => args2 (fun a0 a1 => withD (Ty.sl (Ty.sl TValue)) a0 fun x => withD (Ty.sl (Ty.sl TValue)) a1 fun y => (Sm (Ty.sl (Ty.sl TValue)) x) ∧ (Sm (Ty.sl (Ty.sl TValue)) y) ∧ (x = y) ∧ K (.data Ty.bool (true)) []) args hp⟩
def cons66 : Cons := [(102, c102)]
def inl66 : List (Nat × Inl) := []
@[reducible] def C66 : Ctx := ⟨tab, fun t => memN t cmps, cons66, 27, inl66, 0⟩
theorem consOk66 : ConsOk P C66 := by
  refine consOk_cons (enter_ok (fn := Go.Proofs.Tryz.f102) Go.Proofs.Tryz.func102 (by kernel_rfl) rfl) con102_ok ?_
  exact consOk_nil
def ann66 : Nat → List Dir
  | 0 => [.keep [0, 1]]
  | 1 => [.keep [0, 1, 10]]
  | 2 => [.keep [4]]
  | 3 => [.keep [0, 1, 5]]
  | 4 => [.keep [0, 1, 5, 14]]
  | 5 => [.keep [0, 1, 5]]
  | 6 => [.keep [0, 1, 5, 26]]
  | 7 => [.keep [4]]
  | 8 => [.keep [4]]
  | 100000 => [.keep []]
  | _ => []
@[reducible] def LP66_0 (x : (List (List (TValue).D))) (y : (List (List (TValue).D))) (m : Nat) (st_ : St) (K : X → St → Prop) : Prop := (True) ∧ LoopI (fun (i0 : Int) (v0 : Unit) => (⟨[(0, .data (Ty.sl (Ty.sl TValue)) x), (1, .data (Ty.sl (Ty.sl TValue)) y), (5, .data (Ty.int .i64) i0)], []⟩ : St)) (0 : Int) (x.length : Int) (F.laws_eqValueSS_l0 x y) (fun v0 : Unit => True) (outD (fun v0 : Unit => True → K (.exit 0) (⟨[], []⟩ : St)) (fun q0 : Unit => K .ret (⟨[(4, .data Ty.bool false)], []⟩ : St))) m st_
def L66 (x : (List (List (TValue).D))) (y : (List (List (TValue).D))) : Loops := fun id m st_ K => match id with
  | 0 => LP66_0 x y m st_ K
  | _ => False
theorem vc66 (x : (List (List (TValue).D))) (y : (List (List (TValue).D))) (K : AV → Hp → Prop) : awp C66 (L66 x y) ann66 (bodyOf Go.Proofs.Tryz.f66) ⟨argEnv 0 [.data (Ty.sl (Ty.sl TValue)) x, .data (Ty.sl (Ty.sl TValue)) y], []⟩ (outK tab Go.Proofs.Tryz.f66.results.toList (hasBox []) (resK (.dat Ty.bool) K)) =
  (cond (!decide ((x.length : Int) = (y.length : Int))) (K (.data Ty.bool false) []) ((∃ m_, (True) ∧ LoopI (fun (i0 : Int) (v0 : Unit) => (⟨[(0, .data (Ty.sl (Ty.sl TValue)) x), (1, .data (Ty.sl (Ty.sl TValue)) y), (5, .data (Ty.int .i64) i0)], []⟩ : St)) (0 : Int) (x.length : Int) (F.laws_eqValueSS_l0 x y) (fun v0 : Unit => True) (outD (fun v0 : Unit => True → K (.data Ty.bool true) []) (fun q0 : Unit => K (.data Ty.bool false) [])) m_ (⟨[(0, .data (Ty.sl (Ty.sl TValue)) x), (1, .data (Ty.sl (Ty.sl TValue)) y), (5, .data (Ty.int .i64) (0 : Int))], []⟩ : St)))) := by kernel_rfl
theorem lvc66_0 (x : (List (List (TValue).D))) (y : (List (List (TValue).D)))  (i0 : Int) (v0 : Unit) (m : Nat) (K : X → St → Prop) : awp C66 (L66 x y) ann66 (loopAt (bodyOf Go.Proofs.Tryz.f66) 0) (⟨[(0, .data (Ty.sl (Ty.sl TValue)) x), (1, .data (Ty.sl (Ty.sl TValue)) y), (5, .data (Ty.int .i64) i0)], []⟩ : St) (thenW (fun s' => ∃ m', m' < m ∧ (L66 x y) 0 m' s' K) (exitN 0 (ann66 (behind 0)) K)) =
  (cond (decide (i0 < (x.length : Int))) ((0 ≤ i0) ∧ (i0 < (x.length : Int)) ∧ (0 ≤ i0) ∧ (i0 < (y.length : Int)) ∧ (Sm (Ty.sl TValue) (nth (t := (Ty.sl TValue)) x i0)) ∧ (Sm (Ty.sl TValue) (nth (t := (Ty.sl TValue)) y i0)) ∧ ((nth (t := (Ty.sl TValue)) x i0) = (nth (t := (Ty.sl TValue)) y i0)) ∧ cond (!(true)) (K .ret (⟨[(4, .data Ty.bool false)], []⟩ : St)) ((∃ m_, m_ < m ∧ (L66 x y) 0 m_ (⟨[(0, .data (Ty.sl (Ty.sl TValue)) x), (1, .data (Ty.sl (Ty.sl TValue)) y), (5, .data (Ty.int .i64) (wrap64 (i0 + (1 : Int))))], []⟩ : St) K))) (K (.exit 0) (⟨[], []⟩ : St))) := by kernel_rfl
theorem con66_ok : ConOk P 66 c66 := by
  refine con_okR (fn := Go.Proofs.Tryz.f66) (code := bodyOf Go.Proofs.Tryz.f66) (tab_ok tab_check cmp_check) consOk66 mixed Go.Proofs.Tryz.func66 rfl rfl fun args hp K h0 => ?_
  obtain ⟨a0, a1, rfl, rfl, h1⟩ := args2_elim h0
  obtain ⟨x, rfl, h2⟩ := withD_elim h1
  obtain ⟨y, rfl, h3⟩ := withD_elim h2
  obtain ⟨h_x, h_y, p0, hK⟩ := h3
  have h : ok (F.laws_eqValueSS x y) (fun r => K (.data Ty.bool r) []) := ok_of_eq (F.laws_eqValueSS_eq x y h_x h_y p0) hK
  refine ⟨⟨show (2 : Nat) ≤ 27 by decide, show (2 : Nat) ≤ 1000000 by decide⟩, ann66, (L66 x y), (.dat Ty.bool), (loopsN1 (i0 := 0) (by kernel_rfl) ?_), ?_⟩
  · clear h
    intro m_ s_ K_ h
    obtain ⟨hc0, i0, v0, rfl, hl0, rfl, hv0, h⟩ := (show LP66_0 x y m_ s_ K_ from h)
    rw [lvc66_0 x y i0 v0 _ K_]
    exact (loopI_step h (fun ht0 h => ⟨hl0, ⟨ht0, ⟨hl0, ⟨(ok_guard h).1, have g_14 := (ok_guard h).1; have h := (ok_guard h).2; ⟨(sm_nth h_x i0), ⟨(sm_nth h_y i0), ⟨(ok_guard h).1, have g_15 := (ok_guard h).1; have h := (ok_guard h).2; (ok_cond h (fun b_16 h => (have h := ok_ret h; h)) (fun b_16 h => (loopI_next (fun m hm => (show LP66_0 x y m _ _ from ⟨hc0, hm⟩)) () rfl hl0 low0 ht0 (sm_len h_x) trivial (have h := ok_ret h; h))))⟩⟩⟩⟩⟩⟩⟩) (fun h => (h trivial)))
  · rw [vc66 x y K]
    exact (ok_cond h (fun b_1 h => (have h := ok_ret h; h)) (fun b_1 h => (loopI_start (fun m hm => ⟨trivial, hm⟩) (0 : Int) () rfl (Int.natCast_nonneg 0) trivial (ok_then h (fun v0 h hv0 => (have h := ok_ret h; h)) (fun q0 h => (have h := ok_ret h; h))))))

/-! 31: loop.example/tablehouse/laws.eqTable -/
def c31 : Con := ⟨[.dat TTable, .dat TTable], fun args hp K => args2 (fun a0 a1 => withD TTable a0 fun x => withD TTable a1 fun y => (Sm TTable x) ∧ (Sm TTable y) ∧ (x = y) ∧ K (.data Ty.bool (true)) []) args hp⟩
def cons31 : Cons := [(65, c65), (66, c66)]
def inl31 : List (Nat × Inl) := []
@[reducible] def C31 : Ctx := ⟨tab, fun t => memN t cmps, cons31, 17, inl31, 0⟩
theorem consOk31 : ConsOk P C31 := by
  refine consOk_cons (enter_ok (fn := Go.Proofs.Tryz.f65) Go.Proofs.Tryz.func65 (by kernel_rfl) rfl) con65_ok ?_
  refine consOk_cons (enter_ok (fn := Go.Proofs.Tryz.f66) Go.Proofs.Tryz.func66 (by kernel_rfl) rfl) con66_ok ?_
  exact consOk_nil
def ann31 : Nat → List Dir
  | 0 => [.fixRow 2 TTable, .fixRow 3 TTable, .keep [2, 3]]
  | 1 => [.keep [2, 3, 10]]
  | 2 => [.keep [4]]
  | 3 => [.keep [16]]
  | 4 => [.keep [4]]
  | 5 => [.keep [4]]
  | _ => []
def L31 (x : (TTable).D) (y : (TTable).D) : Loops := fun id m st_ K => match id with
  | _ => False
theorem vc31 (x : (TTable).D) (y : (TTable).D) (K : AV → Hp → Prop) : awp C31 (L31 x y) ann31 (bodyOf Go.Proofs.Tryz.f31) ⟨argEnv 0 [.data TTable x, .data TTable y], []⟩ (outK tab Go.Proofs.Tryz.f31.results.toList (hasBox []) (resK (.dat Ty.bool) K)) =
  ((Sm (Ty.sl TColumn) x.1) ∧ (Sm (Ty.sl TColumn) y.1) ∧ (x.1 = y.1) ∧ cond (!(true)) (K (.data Ty.bool false) []) ((Sm (Ty.sl (Ty.sl TValue)) x.2.1) ∧ (Sm (Ty.sl (Ty.sl TValue)) y.2.1) ∧ (x.2.1 = y.2.1) ∧ cond (!(true)) (K (.data Ty.bool false) []) (K (.data Ty.bool true) []))) := by kernel_rfl
theorem con31_ok : ConOk P 31 c31 := by
  refine con_okR (fn := Go.Proofs.Tryz.f31) (code := bodyOf Go.Proofs.Tryz.f31) (tab_ok tab_check cmp_check) consOk31 mixed Go.Proofs.Tryz.func31 rfl rfl fun args hp K h0 => ?_
  obtain ⟨a0, a1, rfl, rfl, h1⟩ := args2_elim h0
  obtain ⟨x, rfl, h2⟩ := withD_elim h1
  obtain ⟨y, rfl, h3⟩ := withD_elim h2
  obtain ⟨h_x, h_y, p0, hK⟩ := h3
  have h : ok (F.laws_eqTable x y) (fun r => K (.data Ty.bool r) []) := ok_of_eq (F.laws_eqTable_eq x y h_x h_y p0) hK
  refine ⟨⟨show (2 : Nat) ≤ 17 by decide, show (2 : Nat) ≤ 1000000 by decide⟩, ann31, (L31 x y), (.dat Ty.bool), (no_loops (by kernel_rfl)), ?_⟩
  · rw [vc31 x y K]
    exact ⟨h_x.1, ⟨h_y.1, ⟨(ok_guard h).1, have g_1 := (ok_guard h).1; have h := (ok_guard h).2; (ok_cond h (fun b_2 h => (have h := ok_ret h; h)) (fun b_2 h => ⟨h_x.2.1, ⟨h_y.2.1, ⟨(ok_guard h).1, have g_3 := (ok_guard h).1; have h := (ok_guard h).2; (cond_f (unf (bnf b_2)) (have h := ok_ret h; h))⟩⟩⟩))⟩⟩⟩

/-! 11: loop.example/tablehouse/laws.eqTableS -/
def c11 : Con := ⟨[.dat (Ty.sl TTable), .dat (Ty.sl TTable)], fun args hp K => args2 (fun a0 a1 => withD (Ty.sl TTable) a0 fun x => withD (Ty.sl TTable) a1 fun y => (Sm (Ty.sl TTable) x) ∧ (Sm (Ty.sl TTable) y) ∧ (x = y) ∧ K (.data Ty.bool (true)) []) args hp⟩
def cons11 : Cons := [(31, c31)]
def inl11 : List (Nat × Inl) := []
@[reducible] def C11 : Ctx := ⟨tab, fun t => memN t cmps, cons11, 27, inl11, 0⟩
theorem consOk11 : ConsOk P C11 := by
  refine consOk_cons (enter_ok (fn := Go.Proofs.Tryz.f31) Go.Proofs.Tryz.func31 (by kernel_rfl) rfl) con31_ok ?_
  exact consOk_nil
def ann11 : Nat → List Dir
  | 0 => [.keep [0, 1]]
  | 1 => [.keep [0, 1, 10]]
  | 2 => [.keep [4]]
  | 3 => [.keep [0, 1, 5]]
  | 4 => [.keep [0, 1, 5, 14]]
  | 5 => [.keep [0, 1, 5]]
  | 6 => [.keep [0, 1, 5, 26]]
  | 7 => [.keep [4]]
  | 8 => [.keep [4]]
  | 100000 => [.keep []]
  | _ => []
@[reducible] def LP11_0 (x : (List (TTable).D)) (y : (List (TTable).D)) (m : Nat) (st_ : St) (K : X → St → Prop) : Prop := (True) ∧ LoopI (fun (i0 : Int) (v0 : Unit) => (⟨[(0, .data (Ty.sl TTable) x), (1, .data (Ty.sl TTable) y), (5, .data (Ty.int .i64) i0)], []⟩ : St)) (0 : Int) (x.length : Int) (F.laws_eqTableS_l0 x y) (fun v0 : Unit => True) (outD (fun v0 : Unit => True → K (.exit 0) (⟨[], []⟩ : St)) (fun q0 : Unit => K .ret (⟨[(4, .data Ty.bool false)], []⟩ : St))) m st_
def L11 (x : (List (TTable).D)) (y : (List (TTable).D)) : Loops := fun id m st_ K => match id with
  | 0 => LP11_0 x y m st_ K
  | _ => False
theorem vc11 (x : (List (TTable).D)) (y : (List (TTable).D)) (K : AV → Hp → Prop) : awp C11 (L11 x y) ann11 (bodyOf Go.Proofs.Tryz.f11) ⟨argEnv 0 [.data (Ty.sl TTable) x, .data (Ty.sl TTable) y], []⟩ (outK tab Go.Proofs.Tryz.f11.results.toList (hasBox []) (resK (.dat Ty.bool) K)) =
  (cond (!decide ((x.length : Int) = (y.length : Int))) (K (.data Ty.bool false) []) ((∃ m_, (True) ∧ LoopI (fun (i0 : Int) (v0 : Unit) => (⟨[(0, .data (Ty.sl TTable) x), (1, .data (Ty.sl TTable) y), (5, .data (Ty.int .i64) i0)], []⟩ : St)) (0 : Int) (x.length : Int) (F.laws_eqTableS_l0 x y) (fun v0 : Unit => True) (outD (fun v0 : Unit => True → K (.data Ty.bool true) []) (fun q0 : Unit => K (.data Ty.bool false) [])) m_ (⟨[(0, .data (Ty.sl TTable) x), (1, .data (Ty.sl TTable) y), (5, .data (Ty.int .i64) (0 : Int))], []⟩ : St)))) := by kernel_rfl
theorem lvc11_0 (x : (List (TTable).D)) (y : (List (TTable).D))  (i0 : Int) (v0 : Unit) (m : Nat) (K : X → St → Prop) : awp C11 (L11 x y) ann11 (loopAt (bodyOf Go.Proofs.Tryz.f11) 0) (⟨[(0, .data (Ty.sl TTable) x), (1, .data (Ty.sl TTable) y), (5, .data (Ty.int .i64) i0)], []⟩ : St) (thenW (fun s' => ∃ m', m' < m ∧ (L11 x y) 0 m' s' K) (exitN 0 (ann11 (behind 0)) K)) =
  (cond (decide (i0 < (x.length : Int))) ((0 ≤ i0) ∧ (i0 < (x.length : Int)) ∧ (0 ≤ i0) ∧ (i0 < (y.length : Int)) ∧ (Sm TTable (nth (t := TTable) x i0)) ∧ (Sm TTable (nth (t := TTable) y i0)) ∧ ((nth (t := TTable) x i0) = (nth (t := TTable) y i0)) ∧ cond (!(true)) (K .ret (⟨[(4, .data Ty.bool false)], []⟩ : St)) ((∃ m_, m_ < m ∧ (L11 x y) 0 m_ (⟨[(0, .data (Ty.sl TTable) x), (1, .data (Ty.sl TTable) y), (5, .data (Ty.int .i64) (wrap64 (i0 + (1 : Int))))], []⟩ : St) K))) (K (.exit 0) (⟨[], []⟩ : St))) := by kernel_rfl
theorem con11_ok : ConOk P 11 c11 := by
  refine con_okR (fn := Go.Proofs.Tryz.f11) (code := bodyOf Go.Proofs.Tryz.f11) (tab_ok tab_check cmp_check) consOk11 mixed Go.Proofs.Tryz.func11 rfl rfl fun args hp K h0 => ?_
  obtain ⟨a0, a1, rfl, rfl, h1⟩ := args2_elim h0
  obtain ⟨x, rfl, h2⟩ := withD_elim h1
  obtain ⟨y, rfl, h3⟩ := withD_elim h2
  obtain ⟨h_x, h_y, p0, hK⟩ := h3
  have h : ok (F.laws_eqTableS x y) (fun r => K (.data Ty.bool r) []) := ok_of_eq (F.laws_eqTableS_eq x y h_x h_y p0) hK
  refine ⟨⟨show (2 : Nat) ≤ 27 by decide, show (2 : Nat) ≤ 1000000 by decide⟩, ann11, (L11 x y), (.dat Ty.bool), (loopsN1 (i0 := 0) (by kernel_rfl) ?_), ?_⟩
  · clear h
    intro m_ s_ K_ h
    obtain ⟨hc0, i0, v0, rfl, hl0, rfl, hv0, h⟩ := (show LP11_0 x y m_ s_ K_ from h)
    rw [lvc11_0 x y i0 v0 _ K_]
    exact (loopI_step h (fun ht0 h => ⟨hl0, ⟨ht0, ⟨hl0, ⟨(ok_guard h).1, have g_14 := (ok_guard h).1; have h := (ok_guard h).2; ⟨(sm_nth h_x i0), ⟨(sm_nth h_y i0), ⟨(ok_guard h).1, have g_15 := (ok_guard h).1; have h := (ok_guard h).2; (ok_cond h (fun b_16 h => (have h := ok_ret h; h)) (fun b_16 h => (loopI_next (fun m hm => (show LP11_0 x y m _ _ from ⟨hc0, hm⟩)) () rfl hl0 low0 ht0 (sm_len h_x) trivial (have h := ok_ret h; h))))⟩⟩⟩⟩⟩⟩⟩) (fun h => (h trivial)))
  · rw [vc11 x y K]
    exact (ok_cond h (fun b_1 h => (have h := ok_ret h; h)) (fun b_1 h => (loopI_start (fun m hm => ⟨trivial, hm⟩) (0 : Int) () rfl (Int.natCast_nonneg 0) trivial (ok_then h (fun v0 h hv0 => (have h := ok_ret h; h)) (fun q0 h => (have h := ok_ret h; h))))))

/-! 32: loop.example/tablehouse/laws.eqIntS -/
def c32 : Con := ⟨[.dat (Ty.sl (Ty.int .i64)), .dat (Ty.sl (Ty.int .i64))], fun args hp K => args2 (fun a0 a1 => withD (Ty.sl (Ty.int .i64)) a0 fun x => withD (Ty.sl (Ty.int .i64)) a1 fun y => (Sm (Ty.sl (Ty.int .i64)) x) ∧ (Sm (Ty.sl (Ty.int .i64)) y) ∧ (x = y) ∧ K (.data Ty.bool (true)) []) args hp⟩
def cons32 : Cons := []
def inl32 : List (Nat × Inl) := []
@[reducible] def C32 : Ctx := ⟨tab, fun t => memN t cmps, cons32, 26, inl32, 0⟩
theorem consOk32 : ConsOk P C32 := by
  exact consOk_nil
def ann32 : Nat → List Dir
  | 0 => [.keep [0, 1]]
  | 1 => [.keep [0, 1, 10]]
  | 2 => [.keep [4]]
  | 3 => [.keep [0, 1, 5]]
  | 4 => [.keep [0, 1, 5, 14]]
  | 5 => [.keep [0, 1, 5]]
  | 6 => [.keep [0, 1, 5, 25]]
  | 7 => [.keep [4]]
  | 8 => [.keep [4]]
  | 100000 => [.keep []]
  | _ => []
@[reducible] def LP32_0 (x : (List Int)) (y : (List Int)) (m : Nat) (st_ : St) (K : X → St → Prop) : Prop := (True) ∧ LoopI (fun (i0 : Int) (v0 : Unit) => (⟨[(0, .data (Ty.sl (Ty.int .i64)) x), (1, .data (Ty.sl (Ty.int .i64)) y), (5, .data (Ty.int .i64) i0)], []⟩ : St)) (0 : Int) (x.length : Int) (F.laws_eqIntS_l0 x y) (fun v0 : Unit => True) (outD (fun v0 : Unit => True → K (.exit 0) (⟨[], []⟩ : St)) (fun q0 : Unit => K .ret (⟨[(4, .data Ty.bool false)], []⟩ : St))) m st_
def L32 (x : (List Int)) (y : (List Int)) : Loops := fun id m st_ K => match id with
  | 0 => LP32_0 x y m st_ K
  | _ => False
theorem vc32 (x : (List Int)) (y : (List Int)) (K : AV → Hp → Prop) : awp C32 (L32 x y) ann32 (bodyOf Go.Proofs.Tryz.f32) ⟨argEnv 0 [.data (Ty.sl (Ty.int .i64)) x, .data (Ty.sl (Ty.int .i64)) y], []⟩ (outK tab Go.Proofs.Tryz.f32.results.toList (hasBox []) (resK (.dat Ty.bool) K)) =
  (cond (!decide ((x.length : Int) = (y.length : Int))) (K (.data Ty.bool false) []) ((∃ m_, (True) ∧ LoopI (fun (i0 : Int) (v0 : Unit) => (⟨[(0, .data (Ty.sl (Ty.int .i64)) x), (1, .data (Ty.sl (Ty.int .i64)) y), (5, .data (Ty.int .i64) i0)], []⟩ : St)) (0 : Int) (x.length : Int) (F.laws_eqIntS_l0 x y) (fun v0 : Unit => True) (outD (fun v0 : Unit => True → K (.data Ty.bool true) []) (fun q0 : Unit => K (.data Ty.bool false) [])) m_ (⟨[(0, .data (Ty.sl (Ty.int .i64)) x), (1, .data (Ty.sl (Ty.int .i64)) y), (5, .data (Ty.int .i64) (0 : Int))], []⟩ : St)))) := by kernel_rfl
theorem lvc32_0 (x : (List Int)) (y : (List Int))  (i0 : Int) (v0 : Unit) (m : Nat) (K : X → St → Prop) : awp C32 (L32 x y) ann32 (loopAt (bodyOf Go.Proofs.Tryz.f32) 0) (⟨[(0, .data (Ty.sl (Ty.int .i64)) x), (1, .data (Ty.sl (Ty.int .i64)) y), (5, .data (Ty.int .i64) i0)], []⟩ : St) (thenW (fun s' => ∃ m', m' < m ∧ (L32 x y) 0 m' s' K) (exitN 0 (ann32 (behind 0)) K)) =
  (cond (decide (i0 < (x.length : Int))) ((0 ≤ i0) ∧ (i0 < (x.length : Int)) ∧ (0 ≤ i0) ∧ (i0 < (y.length : Int)) ∧ cond (!decide ((nth (t := (Ty.int .i64)) x i0) = (nth (t := (Ty.int .i64)) y i0))) (K .ret (⟨[(4, .data Ty.bool false)], []⟩ : St)) ((∃ m_, m_ < m ∧ (L32 x y) 0 m_ (⟨[(0, .data (Ty.sl (Ty.int .i64)) x), (1, .data (Ty.sl (Ty.int .i64)) y), (5, .data (Ty.int .i64) (wrap64 (i0 + (1 : Int))))], []⟩ : St) K))) (K (.exit 0) (⟨[], []⟩ : St))) := by kernel_rfl
theorem con32_ok : ConOk P 32 c32 := by
  refine con_okR (fn := Go.Proofs.Tryz.f32) (code := bodyOf Go.Proofs.Tryz.f32) (tab_ok tab_check cmp_check) consOk32 mixed Go.Proofs.Tryz.func32 rfl rfl fun args hp K h0 => ?_
  obtain ⟨a0, a1, rfl, rfl, h1⟩ := args2_elim h0
  obtain ⟨x, rfl, h2⟩ := withD_elim h1
  obtain ⟨y, rfl, h3⟩ := withD_elim h2
  obtain ⟨h_x, h_y, p0, hK⟩ := h3
  have h : ok (F.laws_eqIntS x y) (fun r => K (.data Ty.bool r) []) := ok_of_eq (F.laws_eqIntS_eq x y h_x h_y p0) hK
  refine ⟨⟨show (2 : Nat) ≤ 26 by decide, show (2 : Nat) ≤ 1000000 by decide⟩, ann32, (L32 x y), (.dat Ty.bool), (loopsN1 (i0 := 0) (by kernel_rfl) ?_), ?_⟩
  · clear h
    intro m_ s_ K_ h
    obtain ⟨hc0, i0, v0, rfl, hl0, rfl, hv0, h⟩ := (show LP32_0 x y m_ s_ K_ from h)
    rw [lvc32_0 x y i0 v0 _ K_]
    exact (loopI_step h (fun ht0 h => ⟨hl0, ⟨ht0, ⟨hl0, ⟨(ok_guard h).1, have g_12 := (ok_guard h).1; have h := (ok_guard h).2; (ok_cond h (fun b_13 h => (have h := ok_ret h; h)) (fun b_13 h => (loopI_next (fun m hm => (show LP32_0 x y m _ _ from ⟨hc0, hm⟩)) () rfl hl0 low0 ht0 (sm_len h_x) trivial (have h := ok_ret h; h))))⟩⟩⟩⟩) (fun h => (h trivial)))
  · rw [vc32 x y K]
    exact (ok_cond h (fun b_1 h => (have h := ok_ret h; h)) (fun b_1 h => (loopI_start (fun m hm => ⟨trivial, hm⟩) (0 : Int) () rfl (Int.natCast_nonneg 0) trivial (ok_then h (fun v0 h hv0 => (have h := ok_ret h; h)) (fun q0 h => (have h := ok_ret h; h))))))

/-! 67: loop.example/tablehouse/laws.eqPart -/
def c67 : Con := ⟨[.dat TPart, .dat TPart], fun args hp K => args2 (fun a0 a1 => withD TPart a0 fun x => withD TPart a1 fun y => (Sm TPart x) ∧ (Sm TPart y) ∧ (x = y) ∧ K (.data Ty.bool (true)) []) args hp⟩
def cons67 : Cons := [(103, c103)]
def inl67 : List (Nat × Inl) := []
@[reducible] def C67 : Ctx := ⟨tab, fun t => memN t cmps, cons67, 21, inl67, 0⟩
theorem consOk67 : ConsOk P C67 := by
  refine consOk_cons (enter_ok (fn := Go.Proofs.Tryz.f103) Go.Proofs.Tryz.func103 (by kernel_rfl) rfl) con103_ok ?_
  exact consOk_nil
def ann67 : Nat → List Dir
  | 0 => [.fixRow 2 TPart, .fixRow 3 TPart, .keep [2, 3]]
  | 1 => [.keep [2, 3, 9]]
  | 2 => [.keep [4]]
  | 3 => [.keep [2, 3, 14]]
  | 4 => [.keep [4]]
  | 5 => [.keep [20]]
  | 6 => [.keep [4]]
  | 7 => [.keep [4]]
  | _ => []
def L67 (x : (TPart).D) (y : (TPart).D) : Loops := fun id m st_ K => match id with
  | _ => False
theorem vc67 (x : (TPart).D) (y : (TPart).D) (K : AV → Hp → Prop) : awp C67 (L67 x y) ann67 (bodyOf Go.Proofs.Tryz.f67) ⟨argEnv 0 [.data TPart x, .data TPart y], []⟩ (outK tab Go.Proofs.Tryz.f67.results.toList (hasBox []) (resK (.dat Ty.bool) K)) =
  (cond (!decide (x.1 = y.1)) (K (.data Ty.bool false) []) (cond (!decide (x.2.1 = y.2.1)) (K (.data Ty.bool false) []) ((Sm TValue x.2.2.1) ∧ (Sm TValue y.2.2.1) ∧ (x.2.2.1 = y.2.2.1) ∧ cond (!(true)) (K (.data Ty.bool false) []) (K (.data Ty.bool true) [])))) := by kernel_rfl
theorem con67_ok : ConOk P 67 c67 := by
  refine con_okR (fn := Go.Proofs.Tryz.f67) (code := bodyOf Go.Proofs.Tryz.f67) (tab_ok tab_check cmp_check) consOk67 mixed Go.Proofs.Tryz.func67 rfl rfl fun args hp K h0 => ?_
  obtain ⟨a0, a1, rfl, rfl, h1⟩ := args2_elim h0
  obtain ⟨x, rfl, h2⟩ := withD_elim h1
  obtain ⟨y, rfl, h3⟩ := withD_elim h2
  obtain ⟨h_x, h_y, p0, hK⟩ := h3
  have h : ok (F.laws_eqPart x y) (fun r => K (.data Ty.bool r) []) := ok_of_eq (F.laws_eqPart_eq x y h_x h_y p0) hK
  refine ⟨⟨show (2 : Nat) ≤ 21 by decide, show (2 : Nat) ≤ 1000000 by decide⟩, ann67, (L67 x y), (.dat Ty.bool), (no_loops (by kernel_rfl)), ?_⟩
  · rw [vc67 x y K]
    exact (ok_cond h (fun b_1 h => (have h := ok_ret h; h)) (fun b_1 h => (ok_cond h (fun b_2 h => (have h := ok_ret h; h)) (fun b_2 h => ⟨h_x.2.2.1, ⟨h_y.2.2.1, ⟨(ok_guard h).1, have g_3 := (ok_guard h).1; have h := (ok_guard h).2; (ok_cond h (fun b_4 h => (have h := ok_ret h; h)) (fun b_4 h => (have h := ok_ret h; h)))⟩⟩⟩))))

/-! 33: loop.example/tablehouse/laws.eqPartS -/
def c33 : Con := ⟨[.dat (Ty.sl TPart), .dat (Ty.sl TPart)], fun args hp K => args2 (fun a0 a1 => withD (Ty.sl TPart) a0 fun x => withD (Ty.sl TPart) a1 fun y => (Sm (Ty.sl TPart) x) ∧ (Sm (Ty.sl TPart) y) ∧ (x = y) ∧ K (.data Ty.bool (true)) []) args hp⟩
def cons33 : Cons := [(67, c67)]
def inl33 : List (Nat × Inl) := []
@[reducible] def C33 : Ctx := ⟨tab, fun t => memN t cmps, cons33, 27, inl33, 0⟩
theorem consOk33 : ConsOk P C33 := by
  refine consOk_cons (enter_ok (fn := Go.Proofs.Tryz.f67) Go.Proofs.Tryz.func67 (by kernel_rfl) rfl) con67_ok ?_
  exact consOk_nil
def ann33 : Nat → List Dir
  | 0 => [.keep [0, 1]]
  | 1 => [.keep [0, 1, 10]]
  | 2 => [.keep [4]]
  | 3 => [.keep [0, 1, 5]]
  | 4 => [.keep [0, 1, 5, 14]]
  | 5 => [.keep [0, 1, 5]]
  | 6 => [.keep [0, 1, 5, 26]]
  | 7 => [.keep [4]]
  | 8 => [.keep [4]]
  | 100000 => [.keep []]
  | _ => []
@[reducible] def LP33_0 (x : (List (TPart).D)) (y : (List (TPart).D)) (m : Nat) (st_ : St) (K : X → St → Prop) : Prop := (True) ∧ LoopI (fun (i0 : Int) (v0 : Unit) => (⟨[(0, .data (Ty.sl TPart) x), (1, .data (Ty.sl TPart) y), (5, .data (Ty.int .i64) i0)], []⟩ : St)) (0 : Int) (x.length : Int) (F.laws_eqPartS_l0 x y) (fun v0 : Unit => True) (outD (fun v0 : Unit => True → K (.exit 0) (⟨[], []⟩ : St)) (fun q0 : Unit => K .ret (⟨[(4, .data Ty.bool false)], []⟩ : St))) m st_
def L33 (x : (List (TPart).D)) (y : (List (TPart).D)) : Loops := fun id m st_ K => match id with
  | 0 => LP33_0 x y m st_ K
  | _ => False
theorem vc33 (x : (List (TPart).D)) (y : (List (TPart).D)) (K : AV → Hp → Prop) : awp C33 (L33 x y) ann33 (bodyOf Go.Proofs.Tryz.f33) ⟨argEnv 0 [.data (Ty.sl TPart) x, .data (Ty.sl TPart) y], []⟩ (outK tab Go.Proofs.Tryz.f33.results.toList (hasBox []) (resK (.dat Ty.bool) K)) =
  (cond (!decide ((x.length : Int) = (y.length : Int))) (K (.data Ty.bool false) []) ((∃ m_, (True) ∧ LoopI (fun (i0 : Int) (v0 : Unit) => (⟨[(0, .data (Ty.sl TPart) x), (1, .data (Ty.sl TPart) y), (5, .data (Ty.int .i64) i0)], []⟩ : St)) (0 : Int) (x.length : Int) (F.laws_eqPartS_l0 x y) (fun v0 : Unit => True) (outD (fun v0 : Unit => True → K (.data Ty.bool true) []) (fun q0 : Unit => K (.data Ty.bool false) [])) m_ (⟨[(0, .data (Ty.sl TPart) x), (1, .data (Ty.sl TPart) y), (5, .data (Ty.int .i64) (0 : Int))], []⟩ : St)))) := by kernel_rfl
theorem lvc33_0 (x : (List (TPart).D)) (y : (List (TPart).D))  (i0 : Int) (v0 : Unit) (m : Nat) (K : X → St → Prop) : awp C33 (L33 x y) ann33 (loopAt (bodyOf Go.Proofs.Tryz.f33) 0) (⟨[(0, .data (Ty.sl TPart) x), (1, .data (Ty.sl TPart) y), (5, .data (Ty.int .i64) i0)], []⟩ : St) (thenW (fun s' => ∃ m', m' < m ∧ (L33 x y) 0 m' s' K) (exitN 0 (ann33 (behind 0)) K)) =
  (cond (decide (i0 < (x.length : Int))) ((0 ≤ i0) ∧ (i0 < (x.length : Int)) ∧ (0 ≤ i0) ∧ (i0 < (y.length : Int)) ∧ (Sm TPart (nth (t := TPart) x i0)) ∧ (Sm TPart (nth (t := TPart) y i0)) ∧ ((nth (t := TPart) x i0) = (nth (t := TPart) y i0)) ∧ cond (!(true)) (K .ret (⟨[(4, .data Ty.bool false)], []⟩ : St)) ((∃ m_, m_ < m ∧ (L33 x y) 0 m_ (⟨[(0, .data (Ty.sl TPart) x), (1, .data (Ty.sl TPart) y), (5, .data (Ty.int .i64) (wrap64 (i0 + (1 : Int))))], []⟩ : St) K))) (K (.exit 0) (⟨[], []⟩ : St))) := by kernel_rfl
theorem con33_ok : ConOk P 33 c33 := by
  refine con_okR (fn := Go.Proofs.Tryz.f33) (code := bodyOf Go.Proofs.Tryz.f33) (tab_ok tab_check cmp_check) consOk33 mixed Go.Proofs.Tryz.func33 rfl rfl fun args hp K h0 => ?_
  obtain ⟨a0, a1, rfl, rfl, h1⟩ := args2_elim h0
  obtain ⟨x, rfl, h2⟩ := withD_elim h1
  obtain ⟨y, rfl, h3⟩ := withD_elim h2
  obtain ⟨h_x, h_y, p0, hK⟩ := h3
  have h : ok (F.laws_eqPartS x y) (fun r => K (.data Ty.bool r) []) := ok_of_eq (F.laws_eqPartS_eq x y h_x h_y p0) hK
  refine ⟨⟨show (2 : Nat) ≤ 27 by decide, show (2 : Nat) ≤ 1000000 by decide⟩, ann33, (L33 x y), (.dat Ty.bool), (loopsN1 (i0 := 0) (by kernel_rfl) ?_), ?_⟩
  · clear h
    intro m_ s_ K_ h
    obtain ⟨hc0, i0, v0, rfl, hl0, rfl, hv0, h⟩ := (show LP33_0 x y m_ s_ K_ from h)
    rw [lvc33_0 x y i0 v0 _ K_]
    exact (loopI_step h (fun ht0 h => ⟨hl0, ⟨ht0, ⟨hl0, ⟨(ok_guard h).1, have g_14 := (ok_guard h).1; have h := (ok_guard h).2; ⟨(sm_nth h_x i0), ⟨(sm_nth h_y i0), ⟨(ok_guard h).1, have g_15 := (ok_guard h).1; have h := (ok_guard h).2; (ok_cond h (fun b_16 h => (have h := ok_ret h; h)) (fun b_16 h => (loopI_next (fun m hm => (show LP33_0 x y m _ _ from ⟨hc0, hm⟩)) () rfl hl0 low0 ht0 (sm_len h_x) trivial (have h := ok_ret h; h))))⟩⟩⟩⟩⟩⟩⟩) (fun h => (h trivial)))
  · rw [vc33 x y K]
    exact (ok_cond h (fun b_1 h => (have h := ok_ret h; h)) (fun b_1 h => (loopI_start (fun m hm => ⟨trivial, hm⟩) (0 : Int) () rfl (Int.natCast_nonneg 0) trivial (ok_then h (fun v0 h hv0 => (have h := ok_ret h; h)) (fun q0 h => (have h := ok_ret h; h))))))

/-! 12: loop.example/tablehouse/laws.eqBond -/
def c12 : Con := ⟨[.dat TBond, .dat TBond], fun args hp K => args2 (fun a0 a1 => withD TBond a0 fun x => withD TBond a1 fun y => (Sm TBond x) ∧ (Sm TBond y) ∧ (x = y) ∧ K (.data Ty.bool (true)) []) args hp⟩
def cons12 : Cons := [(32, c32), (33, c33)]
def inl12 : List (Nat × Inl) := []
@[reducible] def C12 : Ctx := ⟨tab, fun t => memN t cmps, cons12, 43, inl12, 0⟩
theorem consOk12 : ConsOk P C12 := by
  refine consOk_cons (enter_ok (fn := Go.Proofs.Tryz.f32) Go.Proofs.Tryz.func32 (by kernel_rfl) rfl) con32_ok ?_
  refine consOk_cons (enter_ok (fn := Go.Proofs.Tryz.f33) Go.Proofs.Tryz.func33 (by kernel_rfl) rfl) con33_ok ?_
  exact consOk_nil
def ann12 : Nat → List Dir
  | 0 => [.fixRow 2 TBond, .fixRow 3 TBond, .keep [2, 3]]
  | 1 => [.keep [2, 3, 9]]
  | 2 => [.keep [4]]
  | 3 => [.keep [2, 3, 14]]
  | 4 => [.keep [4]]
  | 5 => [.keep [2, 3, 20]]
  | 6 => [.keep [4]]
  | 7 => [.keep [2, 3, 25]]
  | 8 => [.keep [4]]
  | 9 => [.keep [2, 3, 31]]
  | 10 => [.keep [4]]
  | 11 => [.keep [2, 3, 36]]
  | 12 => [.keep [4]]
  | 13 => [.keep [42]]
  | 14 => [.keep [4]]
  | 15 => [.keep [4]]
  | _ => []
def L12 (x : (TBond).D) (y : (TBond).D) : Loops := fun id m st_ K => match id with
  | _ => False
theorem vc12 (x : (TBond).D) (y : (TBond).D) (K : AV → Hp → Prop) : awp C12 (L12 x y) ann12 (bodyOf Go.Proofs.Tryz.f12) ⟨argEnv 0 [.data TBond x, .data TBond y], []⟩ (outK tab Go.Proofs.Tryz.f12.results.toList (hasBox []) (resK (.dat Ty.bool) K)) =
  (cond (!decide (x.1 = y.1)) (K (.data Ty.bool false) []) (cond (!decide (x.2.1 = y.2.1)) (K (.data Ty.bool false) []) ((Sm (Ty.sl (Ty.int .i64)) x.2.2.1) ∧ (Sm (Ty.sl (Ty.int .i64)) y.2.2.1) ∧ (x.2.2.1 = y.2.2.1) ∧ cond (!(true)) (K (.data Ty.bool false) []) (cond (!decide (x.2.2.2.1 = y.2.2.2.1)) (K (.data Ty.bool false) []) ((Sm (Ty.sl (Ty.int .i64)) x.2.2.2.2.1) ∧ (Sm (Ty.sl (Ty.int .i64)) y.2.2.2.2.1) ∧ (x.2.2.2.2.1 = y.2.2.2.2.1) ∧ cond (!(true)) (K (.data Ty.bool false) []) (cond (!(Ty.beq Ty.bool x.2.2.2.2.2.1 y.2.2.2.2.2.1)) (K (.data Ty.bool false) []) ((Sm (Ty.sl TPart) x.2.2.2.2.2.2.1) ∧ (Sm (Ty.sl TPart) y.2.2.2.2.2.2.1) ∧ (x.2.2.2.2.2.2.1 = y.2.2.2.2.2.2.1) ∧ cond (!(true)) (K (.data Ty.bool false) []) (K (.data Ty.bool true) [])))))))) := by kernel_rfl
theorem con12_ok : ConOk P 12 c12 := by
  refine con_okR (fn := Go.Proofs.Tryz.f12) (code := bodyOf Go.Proofs.Tryz.f12) (tab_ok tab_check cmp_check) consOk12 mixed Go.Proofs.Tryz.func12 rfl rfl fun args hp K h0 => ?_
  obtain ⟨a0, a1, rfl, rfl, h1⟩ := args2_elim h0
  obtain ⟨x, rfl, h2⟩ := withD_elim h1
  obtain ⟨y, rfl, h3⟩ := withD_elim h2
  obtain ⟨h_x, h_y, p0, hK⟩ := h3
  have h : ok (F.laws_eqBond x y) (fun r => K (.data Ty.bool r) []) := ok_of_eq (F.laws_eqBond_eq x y h_x h_y p0) hK
  refine ⟨⟨show (2 : Nat) ≤ 43 by decide, show (2 : Nat) ≤ 1000000 by decide⟩, ann12, (L12 x y), (.dat Ty.bool), (no_loops (by kernel_rfl)), ?_⟩
  · rw [vc12 x y K]
    exact (ok_cond h (fun b_1 h => (have h := ok_ret h; h)) (fun b_1 h => (ok_cond h (fun b_2 h => (have h := ok_ret h; h)) (fun b_2 h => ⟨h_x.2.2.1, ⟨h_y.2.2.1, ⟨(ok_guard h).1, have g_3 := (ok_guard h).1; have h := (ok_guard h).2; (ok_cond h (fun b_4 h => (have h := ok_ret h; h)) (fun b_4 h => (ok_cond h (fun b_5 h => (have h := ok_ret h; h)) (fun b_5 h => ⟨h_x.2.2.2.2.1, ⟨h_y.2.2.2.2.1, ⟨(ok_guard h).1, have g_6 := (ok_guard h).1; have h := (ok_guard h).2; (cond_f (unf (bnf b_4)) (ok_cond h (fun b_8 h => (have h := ok_ret h; h)) (fun b_8 h => ⟨h_x.2.2.2.2.2.2.1, ⟨h_y.2.2.2.2.2.2.1, ⟨(ok_guard h).1, have g_9 := (ok_guard h).1; have h := (ok_guard h).2; (cond_f (unf (bnf b_4)) (have h := ok_ret h; h))⟩⟩⟩)))⟩⟩⟩))))⟩⟩⟩))))

/-! 3: loop.example/tablehouse/laws.FnExactBondBroken -/
def c3 : Con := ⟨[.dat (Ty.sl TTable), .dat TBond], fun args hp K => args2 (fun a0 a1 => withD (Ty.sl TTable) a0 fun aTables => withD TBond a1 fun aB => (Ln (Ty.sl TTable) aTables) ∧ (Ln TBond aB) ∧ K (.data Ty.bool (true)) []) args hp⟩
def cons3 : Cons := [(5, c5), (6, c6), (7, c7), (8, c8), (9, c9), (10, c10), (11, c11), (12, c12)]
def inl3 : List (Nat × Inl) := []
@[reducible] def C3 : Ctx := ⟨tab, fun t => memN t cmps, cons3, 45, inl3, 0⟩
theorem consOk3 : ConsOk P C3 := by
  refine consOk_cons (enter_ok (fn := Go.Proofs.Tryz.f5) Go.Proofs.Tryz.func5 (by kernel_rfl) rfl) con5_ok ?_
  refine consOk_cons (enter_ok (fn := Go.Proofs.Tryz.f6) Go.Proofs.Tryz.func6 (by kernel_rfl) rfl) con6_ok ?_
  refine consOk_cons (enter_ok (fn := Go.Proofs.Tryz.f7) Go.Proofs.Tryz.func7 (by kernel_rfl) rfl) con7_ok ?_
  refine consOk_cons (enter_ok (fn := Go.Proofs.Tryz.f8) Go.Proofs.Tryz.func8 (by kernel_rfl) rfl) con8_ok ?_
  refine consOk_cons (enter_ok (fn := Go.Proofs.Tryz.f9) Go.Proofs.Tryz.func9 (by kernel_rfl) rfl) con9_ok ?_
  refine consOk_cons (enter_ok (fn := Go.Proofs.Tryz.f10) Go.Proofs.Tryz.func10 (by kernel_rfl) rfl) con10_ok ?_
  refine consOk_cons (enter_ok (fn := Go.Proofs.Tryz.f11) Go.Proofs.Tryz.func11 (by kernel_rfl) rfl) con11_ok ?_
  refine consOk_cons (enter_ok (fn := Go.Proofs.Tryz.f12) Go.Proofs.Tryz.func12 (by kernel_rfl) rfl) con12_ok ?_
  exact consOk_nil
def ann3 : Nat → List Dir
  | 0 => [.fixRow 3 TBond, .keep [0, 3]]
  | 1 => [.keep [0, 3, 5]]
  | 2 => [.keep [0, 3, 5]]
  | 3 => [.keep [0, 3, 5, 14]]
  | 4 => [.keep [4]]
  | 5 => [.keep [0, 3, 5]]
  | 6 => [.keep [0, 3, 19]]
  | 7 => [.keep [4]]
  | 8 => [.keep [0, 3, 6]]
  | 9 => [.keep [0, 3, 6, 7]]
  | 10 => [.fixRow 8 TBond, .keep [0, 3, 6, 7, 8]]
  | 11 => [.keep [0, 3, 6, 7, 8, 9]]
  | 12 => [.keep [0, 3, 7, 8, 34]]
  | 13 => [.keep [4]]
  | 14 => [.keep [3, 8, 39]]
  | 15 => [.keep [4]]
  | 16 => [.keep [44]]
  | 17 => [.keep [4]]
  | 18 => [.keep [4]]
  | _ => []
def L3 (aTables : (List (TTable).D)) (aB : (TBond).D) : Loops := fun id m st_ K => match id with
  | _ => False
theorem vc3 (aTables : (List (TTable).D)) (aB : (TBond).D) (K : AV → Hp → Prop) : awp C3 (L3 aTables aB) ann3 (bodyOf Go.Proofs.Tryz.f3) ⟨argEnv 0 [.data (Ty.sl TTable) aTables, .data TBond aB], []⟩ (outK tab Go.Proofs.Tryz.f3.results.toList (hasBox []) (resK (.dat Ty.bool) K)) =
  ((Ln (Ty.sl TTable) aTables) ∧ (0 ≤ (1048576 : Int)) ∧ ((1048576 : Int) ≤ 1048576) ∧ cond (decide ((M.szS M.szTable aTables (1048576 : Int)) < (0 : Int))) (K (.data Ty.bool true) []) ((Ln TBond aB) ∧ (0 ≤ (M.szS M.szTable aTables (1048576 : Int))) ∧ ((M.szS M.szTable aTables (1048576 : Int)) ≤ 1048576) ∧ cond (decide ((M.szBond aB (M.szS M.szTable aTables (1048576 : Int))) < (0 : Int))) (K (.data Ty.bool true) []) ((Sm (Ty.sl TTable) aTables) ∧ (∀ r_8_1 : (List (TTable).D), r_8_1 = (aTables) → (Sm TBond aB) ∧ (∀ r_8_3 : (TBond).D, r_8_3 = (aB) → (Sm (Ty.sl TTable) r_8_1) ∧ (Sm TBond r_8_3) ∧ (Sm (Ty.sl TTable) aTables) ∧ (∀ r_9_1 : (List (TTable).D), r_9_1 = (aTables) → (Sm TBond aB) ∧ (∀ r_10_1 : (TBond).D, r_10_1 = (aB) → (Sm (Ty.sl TTable) r_9_1) ∧ (Sm TBond r_10_1) ∧ cond (!decide ((M.bondBroken r_9_1 r_10_1) = (M.bondBroken r_8_1 r_8_3))) (K (.data Ty.bool false) []) ((Sm (Ty.sl TTable) aTables) ∧ (∀ r_14_2 : (List (TTable).D), r_14_2 = (aTables) → (Sm (Ty.sl TTable) r_9_1) ∧ (Sm (Ty.sl TTable) r_14_2) ∧ (r_9_1 = r_14_2) ∧ cond (!(true)) (K (.data Ty.bool false) []) ((Sm TBond aB) ∧ (∀ r_16_2 : (TBond).D, r_16_2 = (aB) → (Sm TBond r_10_1) ∧ (Sm TBond r_16_2) ∧ (r_10_1 = r_16_2) ∧ cond (!(true)) (K (.data Ty.bool false) []) (K (.data Ty.bool true) [])))))))))))) := by kernel_rfl
theorem con3_ok : ConOk P 3 c3 := by
  refine con_okR (fn := Go.Proofs.Tryz.f3) (code := bodyOf Go.Proofs.Tryz.f3) (tab_ok tab_check cmp_check) consOk3 mixed Go.Proofs.Tryz.func3 rfl rfl fun args hp K h0 => ?_
  obtain ⟨a0, a1, rfl, rfl, h1⟩ := args2_elim h0
  obtain ⟨aTables, rfl, h2⟩ := withD_elim h1
  obtain ⟨aB, rfl, h3⟩ := withD_elim h2
  obtain ⟨h_aTables, h_aB, hK⟩ := h3
  have h : ok (F.laws_FnExactBondBroken aTables aB) (fun r => K (.data Ty.bool r) []) := ok_of_eq (F.laws_FnExactBondBroken_eq aTables aB h_aTables h_aB) hK
  refine ⟨⟨show (2 : Nat) ≤ 45 by decide, show (2 : Nat) ≤ 1000000 by decide⟩, ann3, (L3 aTables aB), (.dat Ty.bool), (no_loops (by kernel_rfl)), ?_⟩
  · rw [vc3 aTables aB K]
    exact ⟨h_aTables, ⟨(ok_guard h).1, have g_1 := (ok_guard h).1; have h := (ok_guard h).2; ⟨(ok_guard h).1, have g_2 := (ok_guard h).1; have h := (ok_guard h).2; (ok_cond h (fun b_3 h => (have h := ok_ret h; h)) (fun b_3 h => ⟨h_aB, ⟨(ok_guard h).1, have g_4 := (ok_guard h).1; have h := (ok_guard h).2; ⟨(ok_guard h).1, have g_5 := (ok_guard h).1; have h := (ok_guard h).2; (ok_cond h (fun b_6 h => (have h := ok_ret h; h)) (fun b_6 h => ⟨(ok_guard h).1, have g_7 := (ok_guard h).1; have h := (ok_guard h).2; (fun r_8_1 e_r_8_1 => have h := ok_let h r_8_1 e_r_8_1; ⟨(ok_guard h).1, have g_8 := (ok_guard h).1; have h := (ok_guard h).2; (fun r_8_3 e_r_8_3 => have h := ok_let h r_8_3 e_r_8_3; ⟨(ok_guard h).1, have g_9 := (ok_guard h).1; have h := (ok_guard h).2; ⟨(ok_guard h).1, have g_10 := (ok_guard h).1; have h := (ok_guard h).2; ⟨g_7, (fun r_9_1 e_r_9_1 => have h := ok_let h r_9_1 e_r_9_1; ⟨g_8, (fun r_10_1 e_r_10_1 => have h := ok_let h r_10_1 e_r_10_1; ⟨(ok_guard h).1, have g_11 := (ok_guard h).1; have h := (ok_guard h).2; ⟨(ok_guard h).1, have g_12 := (ok_guard h).1; have h := (ok_guard h).2; (ok_cond h (fun b_13 h => (have h := ok_ret h; h)) (fun b_13 h => ⟨g_7, (fun r_14_2 e_r_14_2 => have h := ok_let h r_14_2 e_r_14_2; ⟨g_11, ⟨(ok_guard h).1, have g_14 := (ok_guard h).1; have h := (ok_guard h).2; ⟨(ok_guard h).1, have g_15 := (ok_guard h).1; have h := (ok_guard h).2; (ok_cond h (fun b_16 h => (have h := ok_ret h; h)) (fun b_16 h => ⟨g_8, (fun r_16_2 e_r_16_2 => have h := ok_let h r_16_2 e_r_16_2; ⟨g_12, ⟨(ok_guard h).1, have g_17 := (ok_guard h).1; have h := (ok_guard h).2; ⟨(ok_guard h).1, have g_18 := (ok_guard h).1; have h := (ok_guard h).2; (cond_f (unf (bnf b_16)) (have h := ok_ret h; h))⟩⟩⟩)⟩))⟩⟩⟩)⟩))⟩⟩)⟩)⟩⟩⟩)⟩)⟩))⟩⟩⟩))⟩⟩⟩

end Go.AE
