/- A law for a region that draws its order and whose calls stand in one order: what only reads may come up at any time; one walk serves every order. -/
import Derived.Barred
import Derived.Deep.Quiet
import Derived.Below
import Derived.BigQuiet
import Derived.Test.YtjnlfmhckdijlaaChecked
import Derived.KernelRfl
set_option linter.unusedSimpArgs false
set_option linter.unusedVariables false
namespace Go.Proofs.Gv
open Go Go.RowKit

/-- An operation that yields a value and enters nothing. -/
def calm (o : Oper) : Bool :=
  match o.op with
  | .move _ | .assign _ | .pick .. | .binOp .. | .unOp .. | .convert .. | .field .. | .fieldAddr .. | .index .. | .indexAddr .. | .slice .. | .extract .. | .load .. | .build .. | .lookup .. | .makeFunc .. => true
  | .call c => match c.callee with
    | .builtin .len | .builtin .cap | .builtin .max | .builtin .min => true
    | _ => false
  | _ => false
theorem run_v (P : Program) (s : Sem Value) (w w' : World) (x : Next) (h : (do let a ← s; pure (Next.value a) : Sem Next).run P w = .ok x w') : ∃ v, x = .value v := by
  simp only [Sem.run_bind, Sem.run_pure] at h
  generalize s.run P w = r at h
  cases r with
  | ok a w'' => simp [Result.andThen] at h; exact ⟨a, h.1.symm⟩
  | halt y w'' => simp [Result.andThen] at h
theorem run_v2 (P : Program) (s : Sem Bool) (u v : Value) (w w' : World) (x : Next) (h : (do let b ← s; pure (Next.value (if b then u else v)) : Sem Next).run P w = .ok x w') : ∃ v, x = .value v := by
  simp only [Sem.run_bind, Sem.run_pure] at h
  generalize s.run P w = r at h
  cases r with
  | ok a w'' => simp [Result.andThen] at h; exact ⟨_, h.1.symm⟩
  | halt y w'' => simp [Result.andThen] at h
theorem calm_run {P : Program} {o : Oper} (ho : calm o = true) (ρ : Operand → Value) {w w' : World} {x : Next} (h : (execOp ρ o).run P w = .ok x w') : ∃ v, x = .value v := by
  cases hop : o.op
  case call c =>
    simp only [calm, hop] at ho
    cases hc : c.callee
    case builtin b =>
      simp only [execOp, hop, resolve, hc, Sem.run_bind, Sem.run_pure, Result.andThen_ok, invoke] at h
      rw [hc] at ho
      cases b <;> simp only [Bool.false_eq_true] at ho
      all_goals exact run_v P _ w w' x h
    all_goals (rw [hc] at ho; cases ho)
  all_goals (simp only [calm, hop, Bool.false_eq_true] at ho)
  all_goals (simp only [execOp, hop] at h)
  all_goals first
    | exact run_v P _ w w' x h
    | exact run_v2 P _ _ _ w w' x h
    | (simp only [Sem.run_pure, Result.ok.injEq] at h; exact ⟨_, h.1.symm⟩)
theorem calm_quiet {P : Program} {o : Oper} {a : Act} {C : World → Prop} {w : World} {v : Value} (ho : calm o = true) (h : o.quietAt P a C w v) : (execOp a.eval o).run P w = .ok (.value v) w := by
  unfold Oper.quietAt at h
  cases hr : (execOp a.eval o).run P w with
  | ok x w' =>
    obtain ⟨u, rfl⟩ := calm_run ho _ hr
    rw [hr] at h
    obtain ⟨rfl, rfl⟩ := h
    rfl
  | halt x w' => rw [hr] at h; exact h.elim

section
variable {P : Program} {ops : Array Oper} {Q : Exit → Act → World → Prop}
/-- In state a, in every world behind W, the operation leaves v in its temporary, and the world as it is. -/
def Yx (P : Program) (ops : Array Oper) (W : World) (o : Oper) (v : Value) (a : Act) : Prop :=
  (Region.wanted o (yielded ops a.tmps) = true ∧ ∀ w, Below W.heap.size W w → (execOp a.eval o).run P w = .ok (.value v) w) ∨ (Region.wanted o (yielded ops a.tmps) = false ∧ v = undef)
theorem Yx.of_same {W : World} {o : Oper} {v : Value} {a a' : Act} (hy : Yx P ops W o v a) (he : execOp a'.eval o = execOp a.eval o) (hw : Region.wanted o (yielded ops a'.tmps) = Region.wanted o (yielded ops a.tmps)) : Yx P ops W o v a' := by
  unfold Yx at *
  rw [he, hw]
  exact hy
theorem Yx.wpOp {W w : World} {i : Nat} {o : Oper} {v : Value} {a : Act} (hi : ops[i]? = some o) (hy : Yx P ops W o v a) (hw : Below W.heap.size W w) {K : Act → World → Prop} (h : K (a.put o.dst v) w) : wpOp P ops Q i K a w := by
  unfold Go.wpOp
  simp only [hi]
  rcases hy with ⟨h1, h2⟩ | ⟨h1, rfl⟩
  · simp only [h1, if_true]
    refine .inl ?_
    unfold Oper.wp
    rw [h2 w hw]
    exact h
  · simp only [h1, Bool.false_eq_true, if_false]; exact h
/-- What has come up had all that it waits for behind it. -/
def Closed (ops : Array Oper) (listed : Array Bool) : Prop := ∀ (j : Nat) (oj : Oper), ops[j]? = some oj → listed.getD j false = true → ∀ e ∈ oj.after, Region.binds .any e = true → listed.getD e.on false = true
theorem Closed.step {listed : Array Bool} (h : Closed ops listed) {i : Nat} (hi : i ∈ Region.ready .any ops listed) : Closed ops (listed.setIfInBounds i true) := fun j oj hj hl e he hb => by
  by_cases hij : i = j
  · subst hij
    obtain ⟨-, o, ho, hall⟩ := mem_ready.1 hi
    obtain rfl := Option.some.inj (ho.symm.trans hj)
    exact getD_set_true (hall e he hb)
  · rw [getD_set_ne false hij] at hl
    exact getD_set_true (h j oj hj hl e he hb)
/-- The walk: runs of what only reads, and what makes memory one at a time; then the rest in the order given. -/
inductive Leg where
  | q (l : List Nat)
  | r (i : Nat)
def noOper : Oper := { dst := none, op := .move (.const undef), type := 0, pos := "", after := #[], guard := none }
def pickO (ops : Array Oper) (l : List Nat) : List Oper := l.map fun i => (ops[i]?).getD noOper
theorem pickO_cons {ops : Array Oper} {i : Nat} {o : Oper} (h : ops[i]? = some o) (l : List Nat) : pickO ops (i :: l) = o :: pickO ops l := by unfold pickO; rw [List.map_cons, h]; rfl
def flatB : List Leg → List (Bool × Nat)
  | [] => []
  | .q l :: r => l.map (fun i => (true, i)) ++ flatB r
  | .r i :: r => (false, i) :: flatB r
def waitsOn (ops : Array Oper) (j i : Nat) : Bool := match ops[j]? with
  | some oj => oj.after.any fun e => Region.binds .any e && e.on == i
  | none => false
/-- j waits for i, by way of others. -/
def reachB (ops : Array Oper) : Nat → Nat → Nat → Bool
  | 0, j, i => waitsOn ops j i
  | n + 1, j, i => waitsOn ops j i || match ops[j]? with
    | some oj => oj.after.any fun e => Region.binds .any e && reachB ops n e.on i
    | none => false
theorem waitsOn_spec {j i : Nat} (h : waitsOn ops j i = true) : ∃ oj, ops[j]? = some oj ∧ ∃ e ∈ oj.after, Region.binds .any e = true ∧ e.on = i := by
  unfold waitsOn at h
  split at h
  · rename_i oj hj
    obtain ⟨e, he, hb⟩ := Array.any_eq_true'.1 h
    simp only [Bool.and_eq_true, beq_iff_eq] at hb
    exact ⟨oj, hj, e, he, hb.1, hb.2⟩
  · cases h
theorem reach_listed {listed : Array Bool} (hcl : Closed ops listed) : ∀ (n j i : Nat), reachB ops n j i = true → (∀ oj, ops[j]? = some oj → ∀ e ∈ oj.after, Region.binds .any e = true → listed.getD e.on false = true) → listed.getD i false = true := by
  have direct : ∀ (j i : Nat), waitsOn ops j i = true → (∀ oj, ops[j]? = some oj → ∀ e ∈ oj.after, Region.binds .any e = true → listed.getD e.on false = true) → listed.getD i false = true := fun j i h hj => by
    obtain ⟨oj, hoj, e, he, hb, hon⟩ := waitsOn_spec h
    rw [← hon]; exact hj oj hoj e he hb
  intro n
  induction n with
  | zero => intro j i h hj; exact direct j i h hj
  | succ n ih =>
    intro j i h hj
    simp only [reachB, Bool.or_eq_true] at h
    rcases h with h | h
    · exact direct j i h hj
    · split at h
      · rename_i oj hoj
        obtain ⟨e, he, hb⟩ := Array.any_eq_true'.1 h
        simp only [Bool.and_eq_true] at hb
        have hl := hj oj hoj e he hb.1
        exact ih e.on i hb.2 fun ok hok e' he' hb' => hcl e.on ok hok hl e' he' hb'
      · cases h
end
end Go.Proofs.Gv
