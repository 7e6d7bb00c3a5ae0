/- Small functions, followed in place: what the caller knows goes along. -/
import Derived.Test.YtiplhefglgpdoaaGreatAeX
namespace Go.AE
open Go Go.RowKit
def shiftEnv : Env → Env
 | [] => []
 | (j, v) :: l => (Nat.add j ghost0, v) :: shiftEnv l
def unshift : Env → Env
 | [] => []
 | (j, v) :: l => bif Nat.ble ghost0 j then (Nat.sub j ghost0, v) :: unshift l else unshift l
def inlOut (E : Tab) (deep : Bool) (rs : List ResultVar) (K : AV → St → Prop) (s : St) : Prop := match rs with
 | [r] => optW (resAt E deep s r) fun p => K p.1 ⟨unshift p.2.env, p.2.hp⟩
 | rs => optW (rawAll E deep rs s) fun p => K (.tup p.1) ⟨unshift p.2.env, p.2.hp⟩
def inlK (E : Tab) (deep : Bool) (rs : List ResultVar) (K : AV → St → Prop) : X → St → Prop
 | .normal, s => inlOut E deep rs K s
 | .ret, s => inlOut E deep rs K s
 | .exit _, _ => False
def noLoops : Loops := fun _ _ _ _ => False
def inlT (C : Ctx) (ann : Nat → List Dir) (code : Code) (rs : List ResultVar) : Inl := fun args s K =>
 bif Nat.ble args.length C.n && Nat.ble C.n ghost0 then awp C noLoops ann code ⟨argEnv 0 args ++ shiftEnv s.env, s.hp⟩ (inlK C.tab C.deep rs K) else False
theorem lookup_append {α : Type} : ∀ (l k : List (Nat × α)) (j : Nat), lookup (l ++ k) j = match lookup l j with | some v => some v | none => lookup k j
 | [], k, j => by simp [lookup]
 | (i, x) :: l, k, j => by
  rw [List.cons_append, lookup_cons, lookup_cons]
  by_cases h : i = j
  ·rw [if_pos h, if_pos h]
  ·rw [if_neg h, if_neg h]
   exact lookup_append l k j
theorem lookup_shift : ∀ (e : Env) (j : Nat) (v : AV), lookup (shiftEnv e) j = some v → ∃ k, j = k + ghost0 ∧ lookup e k = some v
 | [], j, v, h => by simp [shiftEnv, lookup] at h
 | (i, x) :: l, j, v, h => by
  unfold shiftEnv at h
  rw [lookup_cons] at h
  split at h
  ·rename_i e
   cases h
   exact ⟨i, e.symm, by rw [lookup_cons, if_pos rfl]⟩
  ·rename_i hne
   obtain ⟨k, hk, hl⟩ := lookup_shift l j v h
   refine ⟨k, hk, ?_⟩
   rw [lookup_cons, if_neg ?_]
   ·exact hl
   ·rintro rfl
    exact hne hk.symm
theorem lookup_unshift : ∀ (e : Env) (k : Nat) (v : AV), lookup (unshift e) k = some v → lookup e (k + ghost0) = some v
 | [], k, v, h => by simp [unshift, lookup] at h
 | (i, x) :: l, k, v, h => by
  unfold unshift at h
  cases hb : Nat.ble ghost0 i with
  | false =>
   rw [hb] at h
   have hlt : ¬ ghost0 ≤ i := by intro hc; rw [Nat.ble_eq_true_of_le hc] at hb; cases hb
   rw [lookup_cons, if_neg (by omega)]
   exact lookup_unshift l k v h
  | true =>
   rw [hb] at h
   simp only [cond_true] at h
   have hle : ghost0 ≤ i := Nat.le_of_ble_eq_true hb
   rw [lookup_cons] at h
   have hs : Nat.sub i ghost0 = i - ghost0 := rfl
   split at h
   ·rename_i e
    rw [hs] at e
    cases h
    rw [lookup_cons, if_pos (by omega)]
   ·rename_i e
    rw [hs] at e
    rw [lookup_cons, if_neg (by omega)]
    exact lookup_unshift l k v h
section
variable {P : Program} {C : Ctx} {g : Gl} {N : Nat} {s : St} {a : Act} {w : World} {φ : Names}
def inGl (g : Gl) (gh : Nat → Value) : Gl := { g with gh := gh }
def Ghosts (g : Gl) (a : Act) (gh : Nat → Value) : Prop := ∀ k, gh (k + ghost0) = valOf g a k
theorem ghosts_are (g : Gl) (a : Act) : ∃ gh, Ghosts g a gh := ⟨fun j => valOf g a (j - ghost0), fun k => by simp only [Nat.add_sub_cancel]⟩
theorem imm_in (gh : Nat → Value) {hp : Hp} {n : Nat} : imm (inGl g gh) φ hp n = imm g φ hp n := by unfold imm inGl; rfl
theorem stab_in (gh : Nat → Value) : stab (inGl g gh) = stab g := by unfold stab inGl; rfl
theorem valOf_in {gh : Nat → Value} {a a' : Act} {k : Nat} (hg : Ghosts g a gh) : valOf (inGl g gh) a' (k + ghost0) = valOf g a k := by
 have hb : Nat.blt (k + ghost0) ghost0 = false := by
  cases hb : Nat.blt (k + ghost0) ghost0 with
  | false => rfl
  | true => rw [Nat.blt_eq] at hb; omega
 unfold valOf
 rw [hb]
 simp only [cond_false, inGl]
 exact hg k
theorem in_env {gh : Nat → Value} (hg : Ghosts g a gh) {hp : Hp} {args : List AV} {vals : List Value} {n : Nat} {e : Env} (hv : AVsRep w (imm g φ hp w.heap.size) (stab g) φ hp args vals) (he : ∀ j av, lookup e j = some av → AVRep w (imm g φ hp w.heap.size) (stab g) φ hp av (valOf g a j))
  (hle : args.length ≤ n) (hgl : n ≤ ghost0) (j : Nat) (av : AV) (hj : lookup (argEnv 0 args ++ shiftEnv e) j = some av) :
  AVRep w (imm g φ hp w.heap.size) (stab g) φ hp av (valOf (inGl g gh) { tmps := vals.toArray ++ Array.replicate (n - vals.toArray.size) undef, defers := [] } j) := by
 have hlen := hv.length
 rw [lookup_append] at hj
 split at hj
 ·rename_i v hla
  cases hj
  obtain ⟨_, u, h1, h2⟩ := argEnv_spec hv j av hla
  have h1 : vals[j]? = some u := by simpa using h1
  have hlt : j < vals.length := (List.getElem?_eq_some_iff.1 h1).1
  have hu : (vals.toArray ++ Array.replicate (n - vals.toArray.size) undef).getD j undef = u := by
   rw [Array.getD_eq_getD_getElem?, Array.getElem?_append_left (by simpa using hlt)]
   simp [h1]
  have hjg : Nat.blt j ghost0 = true := by rw [Nat.blt_eq]; omega
  unfold valOf
  rw [hjg]
  simp only [cond_true]
  rw [hu]
  exact h2
 ·obtain ⟨k, hk0, hk⟩ := lookup_shift _ _ _ hj
  rw [hk0, valOf_in hg]
  exact he k av hk
theorem in_sim {gh : Nat → Value} (hg : Ghosts g a gh) {args : List AV} {vals : List Value} {n : Nat} (h : Sim g N s a w φ) (hv : AVsRep w (imm g φ s.hp w.heap.size) (stab g) φ s.hp args vals) (hle : args.length ≤ n) (hgl : n ≤ ghost0) :
  Sim (inGl g gh) n ⟨argEnv 0 args ++ shiftEnv s.env, s.hp⟩ { tmps := vals.toArray ++ Array.replicate (n - vals.toArray.size) undef, defers := [] } w φ := by
 have hlen := hv.length
 refine ⟨rfl, by simp; omega, h.os, h.tape, h.output, h.hsize, h.frame, h.inj, h.apart, h.place, fun i blk hi => ?_, fun j av hj => ?_, h.pinned⟩
 ·rw [imm_in, stab_in]
  exact h.blocks i blk hi
 ·rw [imm_in, stab_in]
  exact in_env hg hv h.env hle hgl j av hj
theorem out_sim {gh : Nat → Value} (hg : Ghosts g a gh) {a' : Act} {w' : World} {s1 : St} {φ1 : Names} {n : Nat} (h : Sim g N s a w φ) (hs : Sim (inGl g gh) n s1 a' w' φ1) : Sim g N ⟨unshift s1.env, s1.hp⟩ a w' φ1 := by
 refine ⟨h.defers, h.size, hs.os, hs.tape, hs.output, hs.hsize, hs.frame, hs.inj, hs.apart, hs.place, fun i blk hi => ?_, fun k av hk => ?_, hs.pinned⟩
 ·have := hs.blocks i blk hi
  rw [imm_in, stab_in] at this
  exact this
 ·have := hs.env _ _ (lookup_unshift _ _ _ hk)
  rw [imm_in, stab_in, valOf_in hg] at this
  exact this
theorem inl_ok (hT : TabOk P C) (hC : ConsOk P C) (hm : P.follows .mixedOrders = true) {f : FuncId} {fn : Func} {code : Code} (hf : P.funcs[f]? = some fn) (hb : fn.body = some code) (hN : C.n = fn.ntmps) {ann : Nat → List Dir} (hl : loopsOf code = []) :
  InlOk P f (inlT C ann code fn.results.toList) := by
 intro g N s a w φ args vals K h hv hop
 unfold inlT at hop
 cases hq : (Nat.ble args.length C.n && Nat.ble C.n ghost0) with
 | false => rw [hq] at hop; exact hop.elim
 | true =>
 rw [hq] at hop
 simp only [cond_true] at hop
 obtain ⟨hq1, hq2⟩ := Bool.and_eq_true_iff.1 hq
 have hle : args.length ≤ fn.ntmps := by rw [← hN]; exact Nat.le_of_ble_eq_true hq1
 have hgl : fn.ntmps ≤ ghost0 := by rw [← hN]; exact Nat.le_of_ble_eq_true hq2
 obtain ⟨gh, hg⟩ := ghosts_are g a
 have hS := in_sim hg h hv hle hgl
 refine calls_of_wp hf hb (wp_mono (code_ok' (L := noLoops) (ann := ann) hT hC hN hm code (by rw [hl]; intro p hp; cases hp) _ _ _ _ φ hS hop) ?_)
 intro e a' w' hq
 have fin : (∃ s1 φ1, inlOut C.tab C.deep fn.results.toList K s1 ∧ Sim (inGl g gh) fn.ntmps s1 a' w' φ1) → a'.defers = [] ∧ ∃ u, (results fn a'.tmps).run P w' = .ok u w' ∧
   ∃ v s' φ', K v s' ∧ Sim g N s' a w' φ' ∧ AVRep w' (imm g φ' s'.hp w'.heap.size) (stab g) φ' s'.hp v u := by
  rintro ⟨s1, φ1, hk, hs⟩
  refine ⟨hs.defers, ?_⟩
  unfold inlOut at hk
  split at hk
  ·rename_i r ht
   obtain ⟨p, hp, hk⟩ := optW_some hk
   obtain ⟨u, hrun, h1, _, hv⟩ := res_one hT hs (show resAt C.tab _ s1 r = some (p.1, p.2) from hp)
   rw [imm_in, stab_in] at hv
   refine ⟨u, ?_, p.1, _, φ1, hk, out_sim hg h h1, hv⟩
   rw [run_results (us := [u]) (by rw [ht]; exact .cons hrun .nil)]
   simp
  ·rename_i hne
   obtain ⟨p, hp, hk⟩ := optW_some hk
   obtain ⟨us, h1, _, h3, h4⟩ := rawAll_rep hT hs (show rawAll C.tab _ fn.results.toList s1 = some (p.1, p.2) from hp)
   rw [imm_in, stab_in] at h4
   have hlen : ¬ us.toArray.size = 1 := by
    intro e
    have e : us.length = 1 := e
    rw [← h3.length_eq] at e
    match hq : fn.results.toList, e with
    | [r], _ => exact hne r hq
   refine ⟨_, run_results h3, .tup p.1, _, φ1, hk, out_sim hg h h1, ?_⟩
   rw [dif_neg hlen]
   simp only [AVRep]
   exact ⟨_, rfl, h4⟩
 cases e with
 | normal => exact fin hq
 | ret => exact fin hq
 | exit i => obtain ⟨s, φ, hk, _⟩ := hq; exact hk.elim
 | goto l => exact hq.elim
 | panic c => exact hq.elim
 | outgrown => exact hq.elim
end
theorem ln_of_fine : ∀ {t : Ty} {x : t.D}, Fine t x → Ln t x
 | .int _, _, _ => trivial
 | .bool, _, _ => trivial
 | .str, _, h => by
  have h : (_ : ByteArray).size ≤ Go.maxLen := h
  exact h
 | .unit, _, _ => trivial
 | .sl _, _, h => ⟨h.1, fun y hy => ln_of_fine (h.2 y hy)⟩
 | .pair _ _, _, h => ⟨ln_of_fine h.1, ln_of_fine h.2⟩
end Go.AE
