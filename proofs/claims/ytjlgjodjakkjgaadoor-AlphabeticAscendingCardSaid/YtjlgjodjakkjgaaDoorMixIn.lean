/- The law of XMix inside the wide fence: a drawn region that calls yield; what only reads may come up at any time ahead of the round that waits for it; one walk serves every order. -/
import Derived.OrdersIn
import Derived.TacticsIn
import Derived.Test.YtjlgjodjakkjgaaDoorMix
set_option linter.unusedSimpArgs false
set_option linter.unusedVariables false
namespace Go.Proofs.Gv
open Go Go.RowKit

section
variable {F : Fence} {n : Nat} {P : Program} {ops : Array Oper} {Q : Exit → Act → World → Prop}
def noDefer (ops : Array Oper) : Bool := ops.toList.all fun o => match o.op with | .defer _ => false | _ => true
theorem noDefer_spec {ops : Array Oper} (h : noDefer ops = true) {j : Nat} {o : Oper} (ho : ops[j]? = some o) : ∀ c, o.op ≠ .defer c := fun c hc => by
  have := List.all_eq_true.1 h o (by simpa using Array.mem_of_getElem? ho)
  rw [hc] at this
  cases this
/-- A fence that shuts nothing out: the wide one, and a round within it. -/
structure FnW (P : Program) (F : Fence) : Prop where
  fn : ∀ f, F.fn f
  dp : F.depth = none
  call : ∀ {m : Nat} {f : FuncId} {args : Array Value} {w : World} {R : Ending → World → Prop}, Calls P f args w R → CallsIn F m P f args w R
theorem FnW.wide : FnW P Fence.wide := ⟨fun _ => trivial, rfl, fun h => callsIn_wide.2 h⟩
theorem FnW.round (l : Nat) : FnW P (Fence.wide.inRound l) := ⟨fun _ => trivial, rfl, fun h => callsIn_wide.2 h⟩
/-- This world. -/
structure Cw (W : World) where
  x : World
  h : x = W
/-- In state a and in this world the operation leaves v in its temporary, and the world as it is. -/
def Yw (P : Program) (ops : Array Oper) (W : World) (o : Oper) (v : Value) (a : Act) : Prop :=
  (Region.wanted o (yielded ops a.tmps) = true ∧ o.quietAt P a (fun x => ∃ u : Cw W, x = u.x) W v) ∨ (Region.wanted o (yielded ops a.tmps) = false ∧ v = undef)
theorem Yw.of_same {W : World} {o : Oper} {v : Value} {a a' : Act} (hy : Yw P ops W o v a) (he : execOp a'.eval o = execOp a.eval o) (hw : Region.wanted o (yielded ops a'.tmps) = Region.wanted o (yielded ops a.tmps)) : Yw P ops W o v a' := by
  unfold Yw Oper.quietAt at *
  rw [he, hw]
  exact hy
theorem Yw.wpOpIn (hfn : FnW P F) (hnd : noDefer ops = true) {w : World} {i : Nat} {o : Oper} {v : Value} {a : Act} (hi : ops[i]? = some o) (hy : Yw P ops w o v a) {K : Act → World → Prop} (h : K (a.put o.dst v) w) : wpOpIn F n P ops Q i K a w := by
  unfold Go.wpOpIn
  simp only [hi]
  rcases hy with ⟨h1, h2⟩ | ⟨h1, rfl⟩
  · simp only [h1, if_true, Oper.wpIn]
    refine ⟨fun f _ => hfn.fn f, ?_⟩
    rw [Oper.semAt_eq _ _ _ (noDefer_spec hnd hi)]
    unfold Oper.quietAt at h2
    generalize (execOp a.eval o).run P w = r at *
    cases r with
    | ok x w' =>
      cases x <;> simp only [Oper.quietUpon] at h2 <;> simp only [Oper.uponIn]
      case value u =>
        obtain ⟨e1, e2⟩ := h2
        rw [e1, e2]
        exact h
      case skip =>
        obtain ⟨e1, e2⟩ := h2
        rw [e1, ← e2]
        exact h
      case enter f args =>
        obtain ⟨e1, hc⟩ := h2
        rw [e1]
        refine ⟨fun e => (by rw [hfn.dp] at e; cases e), (hfn.call hc).mono ?_⟩
        rintro e w'' ⟨rfl, u, rfl⟩
        rw [u.h]
        exact h
    | halt x w' => simp only [Oper.quietUpon] at h2
  · simp only [h1, Bool.false_eq_true, if_false]
    exact ⟨fun f _ => hfn.fn f, h⟩
end
end Go.Proofs.Gv
