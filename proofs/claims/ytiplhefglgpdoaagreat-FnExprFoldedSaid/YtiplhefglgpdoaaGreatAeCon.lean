/- Contracts as they are written down, and the law at the top. -/
import Derived.Test.YtiplhefglgpdoaaGreatAeOpen
import Derived.Below
namespace Go.AE
open Go Go.RowKit
def withD (t : Ty) (v : AV) (k : t.D → Prop) : Prop := match v with
 | .data u x => (match Ty.eq? u t with
  | some ⟨h⟩ => k (castD h x)
  | none => False)
 | _ => False
def withB (t : Ty) (v : AV) (k : List t.D → Prop) : Prop := match v with
 | .brw u x => (match Ty.eq? u t with
  | some ⟨h⟩ => k (castD (congrArg Ty.sl h) x)
  | none => False)
 | _ => False
theorem withD_elim {t : Ty} {v : AV} {k : t.D → Prop} (h : withD t v k) : ∃ x, v = .data t x ∧ k x := by
 unfold withD at h
 split at h
 ·split at h
  ·rename_i hh _
   cases hh
   exact ⟨_, rfl, h⟩
  ·exact h.elim
 ·exact h.elim
theorem withB_elim {t : Ty} {v : AV} {k : List t.D → Prop} (h : withB t v k) : ∃ x, v = .brw t x ∧ k x := by
 unfold withB at h
 split at h
 ·split at h
  ·rename_i hh _
   cases hh
   exact ⟨_, rfl, h⟩
  ·exact h.elim
 ·exact h.elim
def withA (t : Ty) (v : AV) (k : t.D → Prop) : Prop := match v with
 | .adr u x => (match Ty.eq? u t with
  | some ⟨h⟩ => k (castD h x)
  | none => False)
 | _ => False
def withR (t : Ty) (v : AV) (k : t.D → Prop) : Prop := match v with
 | .ref w => withD t w k
 | _ => False
def withRB (t : Ty) (v : AV) (k : List t.D → Prop) : Prop := match v with
 | .ref w => withB t w k
 | _ => False
theorem withRB_elim {t : Ty} {v : AV} {k : List t.D → Prop} (h : withRB t v k) : ∃ x, v = .ref (.brw t x) ∧ k x := by
 unfold withRB at h
 split at h
 ·obtain ⟨x, rfl, hk⟩ := withB_elim h
  exact ⟨x, rfl, hk⟩
 ·exact h.elim
def withF (f : FuncId) (v : AV) (k : List AV → Prop) : Prop := match v with
 | .fn g caps => bif Nat.beq g f then k caps else False
 | _ => False
def caps0 (F : Prop) (l : List AV) : Prop := match l with
 | [] => F
 | _ => False
def caps1 (F : AV → Prop) (l : List AV) : Prop := match l with
 | [a] => F a
 | _ => False
theorem withA_elim {t : Ty} {v : AV} {k : t.D → Prop} (h : withA t v k) : ∃ x, v = .adr t x ∧ k x := by
 unfold withA at h
 split at h
 ·split at h
  ·rename_i hh _
   cases hh
   exact ⟨_, rfl, h⟩
  ·exact h.elim
 ·exact h.elim
theorem withR_elim {t : Ty} {v : AV} {k : t.D → Prop} (h : withR t v k) : ∃ x, v = .ref (.data t x) ∧ k x := by
 unfold withR at h
 split at h
 ·obtain ⟨x, rfl, hk⟩ := withD_elim h
  exact ⟨x, rfl, hk⟩
 ·exact h.elim
theorem withF_elim {f : FuncId} {v : AV} {k : List AV → Prop} (h : withF f v k) : ∃ caps, v = .fn f caps ∧ k caps := by
 unfold withF at h
 split at h
 ·rename_i g caps
  rcases beq_cases g f with ⟨e, hb⟩ | ⟨_, hb⟩
  ·rw [hb] at h
   subst e
   exact ⟨caps, rfl, h⟩
  ·rw [hb] at h
   exact h.elim
 ·exact h.elim
theorem caps0_elim {F : Prop} {l : List AV} (h : caps0 F l) : l = [] ∧ F := by
 unfold caps0 at h
 split at h
 ·exact ⟨rfl, h⟩
 ·exact h.elim
theorem caps1_elim {F : AV → Prop} {l : List AV} (h : caps1 F l) : ∃ a, l = [a] ∧ F a := by
 unfold caps1 at h
 split at h
 ·exact ⟨_, rfl, h⟩
 ·exact h.elim
def args0 (F : Prop) (l : List AV) (hp : Hp) : Prop := match l, hp with
 | [], [] => F
 | _, _ => False
def args1 (F : AV → Prop) (l : List AV) (hp : Hp) : Prop := match l, hp with
 | [a], [] => F a
 | _, _ => False
def args2 (F : AV → AV → Prop) (l : List AV) (hp : Hp) : Prop := match l, hp with
 | [a, b], [] => F a b
 | _, _ => False
def args3 (F : AV → AV → AV → Prop) (l : List AV) (hp : Hp) : Prop := match l, hp with
 | [a, b, c], [] => F a b c
 | _, _ => False
def args4 (F : AV → AV → AV → AV → Prop) (l : List AV) (hp : Hp) : Prop := match l, hp with
 | [a, b, c, d], [] => F a b c d
 | _, _ => False
theorem args0_elim {F : Prop} {l : List AV} {hp : Hp} (h : args0 F l hp) : l = [] ∧ hp = [] ∧ F := by
 unfold args0 at h
 split at h
 ·exact ⟨rfl, rfl, h⟩
 ·exact h.elim
theorem args1_elim {F : AV → Prop} {l : List AV} {hp : Hp} (h : args1 F l hp) : ∃ a, l = [a] ∧ hp = [] ∧ F a := by
 unfold args1 at h
 split at h
 ·exact ⟨_, rfl, rfl, h⟩
 ·exact h.elim
theorem args2_elim {F : AV → AV → Prop} {l : List AV} {hp : Hp} (h : args2 F l hp) : ∃ a b, l = [a, b] ∧ hp = [] ∧ F a b := by
 unfold args2 at h
 split at h
 ·exact ⟨_, _, rfl, rfl, h⟩
 ·exact h.elim
theorem args3_elim {F : AV → AV → AV → Prop} {l : List AV} {hp : Hp} (h : args3 F l hp) : ∃ a b c, l = [a, b, c] ∧ hp = [] ∧ F a b c := by
 unfold args3 at h
 split at h
 ·exact ⟨_, _, _, rfl, rfl, h⟩
 ·exact h.elim
theorem args4_elim {F : AV → AV → AV → AV → Prop} {l : List AV} {hp : Hp} (h : args4 F l hp) : ∃ a b c d, l = [a, b, c, d] ∧ hp = [] ∧ F a b c d := by
 unfold args4 at h
 split at h
 ·exact ⟨_, _, _, _, rfl, rfl, h⟩
 ·exact h.elim
def hpN (n : Nat) (d : Bool) (t : Ty) (F : List t.D → Prop) (hp : Hp) : Prop := match hp with
 | [(k, .arr e u xs)] => (match Ty.eq? u t with
  | some ⟨h⟩ => bif Nat.beq k n && (e == d) then F (castD (congrArg Ty.sl h) xs) else False
  | none => False)
 | _ => False
theorem hpN_elim {n : Nat} {d : Bool} {t : Ty} {F : List t.D → Prop} {hp : Hp} (h : hpN n d t F hp) : ∃ xs, hp = [(n, .arr d t xs)] ∧ F xs := by
 unfold hpN at h
 split at h
 ·rename_i k e u xs
  split at h
  ·rename_i hh _
   cases hh
   cases hb : (Nat.beq k n && (e == d)) with
   | false => rw [hb] at h; exact h.elim
   | true =>
    rw [hb] at h
    obtain ⟨h1, h2⟩ := Bool.and_eq_true_iff.1 hb
    have := Nat.eq_of_beq_eq_true h1
    have h2 : e = d := by simpa using h2
    subst this
    subst h2
    exact ⟨xs, rfl, h⟩
  ·exact h.elim
 ·exact h.elim
def withO (n : Nat) (a : AV) (F : Prop) : Prop := match a with
 | .own k none => bif Nat.beq k n then F else False
 | _ => False
theorem withO_elim {n : Nat} {a : AV} {F : Prop} (h : withO n a F) : a = .own n none ∧ F := by
 unfold withO at h
 split at h
 ·rename_i k
  rcases beq_cases k n with ⟨rfl, hb⟩ | ⟨_, hb⟩
  ·rw [hb] at h; exact ⟨rfl, h⟩
  ·rw [hb] at h; exact h.elim
 ·exact h.elim
def withC (n : Nat) (hi : Int) (a : AV) (F : Prop) : Prop := match a with
 | .clp k m => bif Nat.beq k n then m = hi ∧ F else False
 | _ => False
theorem withC_elim {n : Nat} {hi : Int} {a : AV} {F : Prop} (h : withC n hi a F) : a = .clp n hi ∧ F := by
 unfold withC at h
 split at h
 ·rename_i k m
  rcases beq_cases k n with ⟨rfl, hb⟩ | ⟨_, hb⟩
  ·rw [hb] at h; obtain ⟨rfl, h⟩ := h; exact ⟨rfl, h⟩
  ·rw [hb] at h; exact h.elim
 ·exact h.elim
@[reducible] def bodyOf (f : Func) : Code := match f.body with
 | some c => c
 | none => .skip
def loopAt (c : Code) (n : Nat) : Code := match nthO (loopsOf c) n with
 | some p => p.2
 | none => .skip
theorem no_loops {C : Ctx} {L : Loops} {ann : Nat → List Dir} {c : Code} (h : loopsOf c = []) : ∀ p ∈ loopsOf c, LoopOk C L ann p.1 p.2 := by
 rw [h]; intro p hp; cases hp
theorem consOk_nil {P : Program} {E : Tab} {c : TypeId → Bool} {n off : Nat} {deep : Bool} : ConsOk P ⟨E, c, [], n, [], off, deep⟩ := ⟨fun f con h => by simp [lookup] at h, fun f T h => by simp [lookup] at h⟩
theorem consOk_inl {P : Program} {E : Tab} {c : TypeId → Bool} {n off : Nat} {deep : Bool} {f : FuncId} {T : Inl} {l : List (Nat × Inl)} (h1 : ∀ args w, (callFunc f args).run P w = .ok (.enter f args) w) (h2 : InlOk P f T)
  (h : ConsOk P ⟨E, c, [], n, l, off, deep⟩) : ConsOk P ⟨E, c, [], n, (f, T) :: l, off, deep⟩ := by
 refine ⟨h.1, fun g T' hg => ?_⟩
 have hk : lookup ((f, T) :: l) g = some T' := hg
 clear hg
 rw [lookup_cons] at hk
 by_cases e : f = g
 ·rw [if_pos e] at hk
  subst e
  cases hk
  exact ⟨h1, h2⟩
 ·rw [if_neg e] at hk
  exact h.2 g T' hk
theorem consOk_cons {P : Program} {E : Tab} {c : TypeId → Bool} {n off : Nat} {deep : Bool} {f : FuncId} {con : Con} {l : Cons} {inl : List (Nat × Inl)} (h1 : ∀ args w, (callFunc f args).run P w = .ok (.enter f args) w) (h2 : ConOk P f con)
  (h : ConsOk P ⟨E, c, l, n, inl, off, deep⟩) : ConsOk P ⟨E, c, (f, con) :: l, n, inl, off, deep⟩ := by
 refine ⟨fun g cg hg => ?_, h.2⟩
 have hk : lookup ((f, con) :: l) g = some cg := hg
 clear hg
 rw [lookup_cons] at hk
 by_cases e : f = g
 ·rw [if_pos e] at hk
  subst e
  cases hk
  exact ⟨h1, h2⟩
 ·rw [if_neg e] at hk
  exact h.1 g cg hk
theorem enter_ok {P : Program} {f : FuncId} {fn : Func} (hf : P.funcs[f]? = some fn) (hn : (fn.name == "runtime.NumGoroutine") = false) (hb : fn.body.isNone = false) (args : Array Value) (w : World) :
  (callFunc f args).run P w = .ok (.enter f args) w := by
 have hn' : ¬ fn.name = "runtime.NumGoroutine" := by simpa using hn
 have hb' : ¬ fn.body = none := by intro e; rw [e] at hb; cases hb
 simp [callFunc, hf, hn', hb']
theorem law_calls {P : Program} {f : FuncId} {con : Con} (hc : ConOk P f con) {args : List AV} {vals : List Value} {W : World}
  (hv : ∀ I S φ hp, (∀ b, b < W.heap.size → I b) → AVsRep W I S φ hp args vals) (hrun : con.run args [] fun r _ => r = .data .bool true) :
  Calls P f vals.toArray W fun e W' => e = .returned (.bool true) ∧ Below W.heap.size W W' := by
 let g : Gl := { w0 := W, ok := fun b => b < W.heap.size, io := fun _ => False, okLt := fun _ h => h }
 have hS : Sim g 0 ⟨[], []⟩ idle g.w0 ⟨fun _ => none, fun _ => []⟩ :=
  ⟨rfl, rfl, rfl, rfl, rfl, Nat.le_refl _, fun _ _ _ => rfl, fun _ _ _ _ _ h => by simp [lookup] at h, fun _ _ _ h => by simp [lookup] at h, fun _ _ _ h => by simp [lookup] at h, fun _ _ h => by simp [lookup] at h, fun _ _ h => by simp [lookup] at h, fun _ h => by simp [lookup] at h⟩
 refine Calls.mono (hc g args [] _ ⟨fun _ => none, fun _ => []⟩ vals hrun hS (hv _ _ _ _ fun b hb => ⟨.inl hb, hb, fun _ _ h => by simp [lookup] at h⟩)) ?_
 intro e w' he
 cases e with
 | returned u =>
  obtain ⟨r, hp', φ', rfl, hs, hr⟩ := he
  exact ⟨by rw [data_bool hr], hs.os, hs.tape, hs.output, hs.hsize, fun k hk => hs.frame k hk (fun h => h)⟩
 | panicked c => exact he.elim
 | outgrown => exact he.elim
theorem args_nil {W : World} : ∀ I S φ hp, (∀ b, b < W.heap.size → I b) → AVsRep W I S φ hp [] [] := fun _ _ _ _ _ => by simp [AVsRep]
theorem args_cons {W : World} {t : Ty} {x : t.D} {v : Value} {l : List AV} {vs : List Value} (h : ∃ cs, Rep W (fun b => b < W.heap.size) t x cs ∧ v = mkv t cs)
  (hl : ∀ I S φ hp, (∀ b, b < W.heap.size → I b) → AVsRep W I S φ hp l vs) : ∀ I S φ hp, (∀ b, b < W.heap.size → I b) → AVsRep W I S φ hp (.data t x :: l) (v :: vs) := by
 intro I S φ hp hI
 obtain ⟨cs, hr, rfl⟩ := h
 simp only [AVsRep, AVRep]
 exact ⟨_, _, rfl, ⟨cs, hr.mono hI (fun _ _ _ => rfl), rfl⟩, hl I S φ hp hI⟩
end Go.AE
