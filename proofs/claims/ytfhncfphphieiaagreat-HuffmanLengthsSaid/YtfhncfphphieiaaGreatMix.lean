import Derived.Barred
import Derived.Deep.Quiet
import Derived.Below
import Derived.BigQuiet
import Derived.Test.YtfhncfphphieiaaGreatChecked
import Derived.KernelRfl
set_option linter.unusedSimpArgs false
set_option linter.unusedVariables false
namespace Go.Proofs.Gv
open Go Go.RowKit
structure Cv (W : World) where
 x : World
 h : Below W.heap.size W x
theorem cv_some (W : World) : Nonempty (Cv W) := ⟨⟨W, Below.refl _ _⟩⟩
def calm (o : Oper) : Bool :=
 match o.op with
 | .move _ | .assign _ | .pick .. | .binOp .. | .unOp .. | .convert .. | .field .. | .fieldAddr .. | .index .. | .indexAddr .. | .slice .. | .extract .. | .load .. | .build .. | .lookup .. | .makeFunc .. => true
 | .call c => match c.callee with
   | .builtin .len | .builtin .cap | .builtin .max | .builtin .min => true
   | _ => false
 | _ => false
theorem run_v (P : Program) (s : Sem Value) (w w' : World) (x : Next) (h : (do let a ← s; pure (Next.value a) : Sem Next).run P w = .ok x w') : ∃ v, x = .value v := by
 simp only [Sem.run_bind, Sem.run_pure] at h
 generalize s.run P w = r at h
 cases r with
 | ok a w'' => simp [Result.andThen] at h; exact ⟨a, h.1.symm⟩
 | halt y w'' => simp [Result.andThen] at h
theorem run_v2 (P : Program) (s : Sem Bool) (u v : Value) (w w' : World) (x : Next) (h : (do let b ← s; pure (Next.value (if b then u else v)) : Sem Next).run P w = .ok x w') : ∃ v, x = .value v := by
 simp only [Sem.run_bind, Sem.run_pure] at h
 generalize s.run P w = r at h
 cases r with
 | ok a w'' => simp [Result.andThen] at h; exact ⟨_, h.1.symm⟩
 | halt y w'' => simp [Result.andThen] at h
theorem calm_run {P : Program} {o : Oper} (ho : calm o = true) (ρ : Operand → Value) {w w' : World} {x : Next} (h : (execOp ρ o).run P w = .ok x w') : ∃ v, x = .value v := by
 cases hop : o.op
 case call c =>
  simp only [calm, hop] at ho
  cases hc : c.callee
  case builtin b =>
   simp only [execOp, hop, resolve, hc, Sem.run_bind, Sem.run_pure, Result.andThen_ok, invoke] at h
   rw [hc] at ho
   cases b <;> simp only [Bool.false_eq_true] at ho
   all_goals exact run_v P _ w w' x h
  all_goals (rw [hc] at ho; cases ho)
 all_goals (simp only [calm, hop, Bool.false_eq_true] at ho)
 all_goals (simp only [execOp, hop] at h)
 all_goals first
  | exact run_v P _ w w' x h
  | exact run_v2 P _ _ _ w w' x h
  | (simp only [Sem.run_pure, Result.ok.injEq] at h; exact ⟨_, h.1.symm⟩)
theorem calm_quiet {P : Program} {o : Oper} {a : Act} {C : World → Prop} {w : World} {v : Value} (ho : calm o = true) (h : o.quietAt P a C w v) : (execOp a.eval o).run P w = .ok (.value v) w := by
 unfold Oper.quietAt at h
 cases hr : (execOp a.eval o).run P w with
 | ok x w' =>
   obtain ⟨u, rfl⟩ := calm_run ho _ hr
   rw [hr] at h
   obtain ⟨rfl, rfl⟩ := h
   rfl
 | halt x w' => rw [hr] at h; exact h.elim
section
variable {P : Program} {ops : Array Oper} {Q : Exit → Act → World → Prop}
def Yx (P : Program) (ops : Array Oper) (W : World) (o : Oper) (v : Value) (a : Act) : Prop :=
 (Region.wanted o (yielded ops a.tmps) = true ∧ ∀ w, Below W.heap.size W w → (execOp a.eval o).run P w = .ok (.value v) w) ∨ (Region.wanted o (yielded ops a.tmps) = false ∧ v = undef)
theorem Yx.of_same {W : World} {o : Oper} {v : Value} {a a' : Act} (hy : Yx P ops W o v a) (he : execOp a'.eval o = execOp a.eval o) (hw : Region.wanted o (yielded ops a'.tmps) = Region.wanted o (yielded ops a.tmps)) : Yx P ops W o v a' := by
 unfold Yx at *
 rw [he, hw]
 exact hy
theorem Yx.wpOp {W w : World} {i : Nat} {o : Oper} {v : Value} {a : Act} (hi : ops[i]? = some o) (hy : Yx P ops W o v a) (hw : Below W.heap.size W w) {K : Act → World → Prop} (h : K (a.put o.dst v) w) : wpOp P ops Q i K a w := by
 unfold Go.wpOp
 simp only [hi]
 rcases hy with ⟨h1, h2⟩ | ⟨h1, rfl⟩
 ·simp only [h1, if_true]
  refine .inl ?_
  unfold Oper.wp
  rw [h2 w hw]
  exact h
 ·simp only [h1, Bool.false_eq_true, if_false]; exact h
theorem wpOp_putx {W : World} {j : Nat} {oi oj : Oper} {v : Value} (hj : ops[j]? = some oj) (hap : oi.apart ops oj = true)
  (hsi : ∀ cs b, oi.op ≠ .select cs b) (hsj : ∀ cs b, oj.op ≠ .select cs b) (hQ : ∀ c a w, Q (.panic c) (a.put oi.dst v) w → Q (.panic c) a w) {K : Act → World → Prop} {a : Act} {w : World}
  (hy : Yx P ops W oi v a) (h : wpOp P ops Q j K (a.put oi.dst v) w) :
  wpOp P ops Q j (fun a' w' => Yx P ops W oi v a' ∧ K (a'.put oi.dst v) w') a w := by
 obtain ⟨h1, h2, h3⟩ := Oper.apart_spec hap
 have keep : ∀ (a : Act), Yx P ops W oi v a → ∀ u, Yx P ops W oi v (a.put oj.dst u) := fun a hy u =>
  hy.of_same (execOp_put oi hsi a oj.dst u h3) (wanted_put oi a oj.dst u h3)
 have keepD : ∀ d, Yx P ops W oi v { a with defers := d :: a.defers } := fun d => hy
 unfold wpOp at *
 simp only [hj] at *
 rw [wanted_put oj a oi.dst v h1] at h
 split
 ·rename_i hw
  simp only [hw, if_true] at h
  rcases h with h | ⟨h, hl⟩
  ·refine .inl ?_
   unfold Oper.wp at *
   rw [execOp_put oj hsj a oi.dst v h1] at h
   generalize (execOp a.eval oj).run P w = r at *
   cases r with
   | ok n w' =>
     cases n <;> simp only [Oper.upon] at h ⊢
     case value u => exact ⟨keep a hy u, by rw [← Act.put_comm a v u h2]; exact h⟩
     case skip => exact ⟨keep a hy _, by rw [← Act.put_comm a v undef h2]; exact h⟩
     case defer d =>
      refine ⟨keep _ (keepD d) _, ?_⟩
      rw [← Act.put_comm _ v undef h2, ← Act.put_defers]
      exact h
     case enter f args =>
      refine Calls.mono h fun e w'' he => ?_
      cases e with
      | returned u => exact ⟨keep a hy u, by rw [← Act.put_comm a v u h2]; exact he⟩
      | panicked c => exact hQ _ _ _ he
      | outgrown => exact he
     case row row args => exact Rows.mono h fun u w'' he => ⟨keep a hy u, by rw [← Act.put_comm a v u h2]; exact he⟩
   | halt x w' =>
     cases x <;> simp only [Oper.upon] at h ⊢
     case panic u => exact hQ _ _ _ h
  ·refine .inr ⟨?_, hl⟩
   unfold Oper.asks at h ⊢
   rwa [execOp_put oj hsj a oi.dst v h1] at h
 ·rename_i hw
  simp only [hw] at h
  exact ⟨keep a hy _, by rw [← Act.put_comm a v undef h2]; exact h⟩
def wpAnyE (P : Program) (T : Nat → Bool) (ops : Array Oper) (Q : Exit → Act → World → Prop) : Nat → Array Bool → Act → World → Prop
 | 0, listed, a, w => Region.ready .any ops listed = [] ∧ Q .normal a w
 | fuel + 1, listed, a, w =>
   (Region.ready .any ops listed = [] → Q .normal a w) ∧
   ∀ i ∈ Region.ready .any ops listed, wpOp P ops Q i (fun a' w' => (T i = false → Below w.heap.size w w') ∧ wpAnyE P T ops Q fuel (listed.setIfInBounds i true) a' w') a w
theorem wpAny_of_E {T : Nat → Bool} : ∀ (fuel : Nat) (listed : Array Bool) (a : Act) (w : World), wpAnyE P T ops Q fuel listed a w → wpAny P .any ops Q fuel listed a w
 | 0, _, _, _, h => h
 | fuel + 1, _, _, _, h => ⟨h.1, fun i hi => wpOp_mono (fun _ _ h' => wpAny_of_E fuel _ _ _ h'.2) (h.2 i hi)⟩
def Closed (ops : Array Oper) (listed : Array Bool) : Prop := ∀ (j : Nat) (oj : Oper), ops[j]? = some oj → listed.getD j false = true → ∀ e ∈ oj.after, Region.binds .any e = true → listed.getD e.on false = true
theorem Closed.step {listed : Array Bool} (h : Closed ops listed) {i : Nat} (hi : i ∈ Region.ready .any ops listed) : Closed ops (listed.setIfInBounds i true) := fun j oj hj hl e he hb => by
 by_cases hij : i = j
 ·subst hij
  obtain ⟨-, o, ho, hall⟩ := mem_ready.1 hi
  obtain rfl := Option.some.inj (ho.symm.trans hj)
  exact getD_set_true (hall e he hb)
 ·rw [getD_set_ne false hij] at hl
  exact getD_set_true (h j oj hj hl e he hb)
theorem anyE_first {T : Nat → Bool} {W : World} {i : Nat} {oi : Oper} {v : Value} (hi : ops[i]? = some oi) (hsel : ∀ (j : Nat) (o : Oper) cs b, ops[j]? = some o → o.op ≠ .select cs b)
  (hQ : ∀ c a w, Q (.panic c) (a.put oi.dst v) w → Q (.panic c) a w)
  (hT : ∀ (listed : Array Bool) (j : Nat), Closed ops listed → listed.getD i true = false → j ∈ Region.ready .any ops listed → j ≠ i → T j = false) :
  ∀ (fuel : Nat) (listed : Array Bool) (a : Act) (w : World), Closed ops listed →
    (∀ j oj, ops[j]? = some oj → j ≠ i → listed.getD j true = false → (∀ e ∈ oj.after, Region.binds .any e = true → e.on ≠ i) → oi.apart ops oj = true) →
    i ∈ Region.ready .any ops listed → Yx P ops W oi v a → Below W.heap.size W w →
    wpAnyE P T ops Q fuel (listed.setIfInBounds i true) (a.put oi.dst v) w → wpAnyE P T ops Q (fuel + 1) listed a w := by
 intro fuel
 induction fuel with
 | zero =>
   intro listed a w _ _ hr hy hw H
   refine ⟨fun h => (by rw [h] at hr; cases hr), fun j hj => ?_⟩
   by_cases hji : j = i
   ·subst hji; exact hy.wpOp hi hw ⟨fun _ => Below.refl _ _, H⟩
   ·have := ready_mono hj hji
    rw [H.1] at this
    cases this
 | succ fuel ih =>
   intro listed a w hcl hfree hr hy hw H
   refine ⟨fun h => (by rw [h] at hr; cases hr), fun j hj => ?_⟩
   by_cases hji : j = i
   ·subst hji; exact hy.wpOp hi hw ⟨fun _ => Below.refl _ _, H⟩
   ·have h1 := H.2 j (ready_mono hj hji)
    obtain ⟨hjun, oj, hoj, hall⟩ := mem_ready.1 hj
    have hiun := (mem_ready.1 hr).1
    have hnot : ∀ e ∈ oj.after, Region.binds .any e = true → e.on ≠ i := fun e he hb heq => by
     have h1 := hall e he hb
     rw [heq] at h1
     rcases Nat.lt_or_ge i listed.size with h' | h'
     ·simp [h'] at hiun h1; rw [hiun] at h1; cases h1
     ·simp [Array.getElem?_eq_none h'] at h1
    have hTj := hT listed j hcl hiun hj hji
    have h2 := wpOp_putx hoj (hfree j oj hoj hji hjun hnot) (fun cs b => hsel i oi cs b hi) (fun cs b => hsel j oj cs b hoj) hQ hy h1
    have hfree' : ∀ k ok, ops[k]? = some ok → k ≠ i → (listed.setIfInBounds j true).getD k true = false →
      (∀ e ∈ ok.after, Region.binds .any e = true → e.on ≠ i) → oi.apart ops ok = true := fun k ok hk hki hun hno => by
     refine hfree k ok hk hki ?_ hno
     by_cases hjk : j = k
     ·subst hjk; exact hjun
     ·rw [getD_set_ne true hjk] at hun; exact hun
    refine wpOp_mono (fun a' w' h3 => ⟨h3.2.1, ?_⟩) h2
    have hb' := h3.2.1 hTj
    refine ih (listed.setIfInBounds j true) a' w' (hcl.step hj) hfree' (ready_mono hr (Ne.symm hji)) h3.1 ?_ ?_
    ·exact hw.trans (hb'.mono hw.size)
    ·rw [Array.setIfInBounds_comm _ _ hji]
     exact h3.2.2
inductive Leg where
 | q (l : List Nat)
 | r (i : Nat)
def mixQ (K : Act → World → Prop) (w : World) (Q : Exit → Act → World → Prop) : Exit → Act → World → Prop
 | .normal, a, w' => Below w.heap.size w w' ∧ K a w'
 | e, a, w' => Q e a w'
def noOper : Oper := { dst := none, op := .move (.const undef), type := 0, pos := "", after := #[], guard := none }
def pickO (ops : Array Oper) (l : List Nat) : List Oper := l.map fun i => (ops[i]?).getD noOper
theorem pickO_cons {ops : Array Oper} {i : Nat} {o : Oper} (h : ops[i]? = some o) (l : List Nat) : pickO ops (i :: l) = o :: pickO ops l := by unfold pickO; rw [List.map_cons, h]; rfl
def wpMix (P : Program) (ops : Array Oper) (tl : List Nat) (Q : Exit → Act → World → Prop) : List Leg → Act → World → Prop
 | [], a, w => wpList P ops Q (pickO ops tl) a w
 | .q l :: r, a, w => wpQuiet P ops (fun x => ∃ u : Cv w, x = u.x) (fun a' => wpMix P ops tl Q r a' w) (pickO ops l) a
 | .r i :: r, a, w => wpList P ops (mixQ (wpMix P ops tl Q r) w Q) (pickO ops [i]) a w
theorem mixQ_ok {K : Act → World → Prop} {w w' : World} {a : Act} (hb : Below w.heap.size w w') (h : K a w') : mixQ K w Q .normal a w' := ⟨hb, h⟩
def flatB : List Leg → List (Bool × Nat)
 | [] => []
 | .q l :: r => l.map (fun i => (true, i)) ++ flatB r
 | .r i :: r => (false, i) :: flatB r
def waitsOn (ops : Array Oper) (j i : Nat) : Bool := match ops[j]? with
 | some oj => oj.after.any fun e => Region.binds .any e && e.on == i
 | none => false
def reachB (ops : Array Oper) : Nat → Nat → Nat → Bool
 | 0, j, i => waitsOn ops j i
 | n + 1, j, i => waitsOn ops j i || match ops[j]? with
   | some oj => oj.after.any fun e => Region.binds .any e && reachB ops n e.on i
   | none => false
def tailB (ops : Array Oper) : List Nat → Array Bool → Bool
 | [], listed => (Region.ready .any ops listed).isEmpty
 | i :: r, listed => Region.ready .any ops listed == [i] && tailB ops r (listed.setIfInBounds i true)
def mixB (ops : Array Oper) (tl : List Nat) : List (Bool × Nat) → Array Bool → Bool
 | [], listed => tailB ops tl listed
 | (true, i) :: r, listed => (Region.ready .any ops listed).contains i && Region.free .any ops listed i && (match ops[i]? with | some o => calm o | none => false) && tl.all (fun t => reachB ops 12 t i) && mixB ops tl r (listed.setIfInBounds i true)
 | (false, i) :: r, listed => Region.ready .any ops listed == [i] && mixB ops tl r (listed.setIfInBounds i true)
def wpFlat (P : Program) (ops : Array Oper) (tl : List Nat) (Q : Exit → Act → World → Prop) : List (Bool × Nat) → Act → World → Prop
 | [], a, w => wpList P ops Q (pickO ops tl) a w
 | (true, i) :: r, a, w => ∃ o v, ops[i]? = some o ∧ Yx P ops w o v a ∧ wpFlat P ops tl Q r (a.put o.dst v) w
 | (false, i) :: r, a, w => wpOp P ops Q i (fun a' w' => Below w.heap.size w w' ∧ wpFlat P ops tl Q r a' w') a w
theorem waitsOn_spec {j i : Nat} (h : waitsOn ops j i = true) : ∃ oj, ops[j]? = some oj ∧ ∃ e ∈ oj.after, Region.binds .any e = true ∧ e.on = i := by
 unfold waitsOn at h
 split at h
 ·rename_i oj hj
  obtain ⟨e, he, hb⟩ := Array.any_eq_true'.1 h
  simp only [Bool.and_eq_true, beq_iff_eq] at hb
  exact ⟨oj, hj, e, he, hb.1, hb.2⟩
 ·cases h
theorem reach_listed {listed : Array Bool} (hcl : Closed ops listed) : ∀ (n j i : Nat), reachB ops n j i = true → (∀ oj, ops[j]? = some oj → ∀ e ∈ oj.after, Region.binds .any e = true → listed.getD e.on false = true) → listed.getD i false = true := by
 have direct : ∀ (j i : Nat), waitsOn ops j i = true → (∀ oj, ops[j]? = some oj → ∀ e ∈ oj.after, Region.binds .any e = true → listed.getD e.on false = true) → listed.getD i false = true := fun j i h hj => by
  obtain ⟨oj, hoj, e, he, hb, hon⟩ := waitsOn_spec h
  rw [← hon]; exact hj oj hoj e he hb
 intro n
 induction n with
 | zero => intro j i h hj; exact direct j i h hj
 | succ n ih =>
   intro j i h hj
   simp only [reachB, Bool.or_eq_true] at h
   rcases h with h | h
   ·exact direct j i h hj
   ·split at h
    ·rename_i oj hoj
     obtain ⟨e, he, hb⟩ := Array.any_eq_true'.1 h
     simp only [Bool.and_eq_true] at hb
     have hl := hj oj hoj e he hb.1
     exact ih e.on i hb.2 fun ok hok e' he' hb' => hcl e.on ok hok hl e' he' hb'
    ·cases h
theorem any_tail {T : Nat → Bool} : ∀ (l : List Nat) (listed : Array Bool) (a : Act) (w : World), (∀ i ∈ l, T i = true) → tailB ops l listed = true → wpList P ops Q (pickO ops l) a w → wpAnyE P T ops Q l.length listed a w
 | [], listed, a, w, _, hB, h => ⟨by simpa [tailB] using hB, h⟩
 | i :: r, listed, a, w, hT, hB, h => by
   simp only [tailB, Bool.and_eq_true, beq_iff_eq] at hB
   obtain ⟨hr, hB⟩ := hB
   refine ⟨fun h0 => (by rw [hr] at h0; cases h0), fun j hj => ?_⟩
   rw [hr] at hj
   have hji : j = i := List.mem_singleton.1 hj
   subst hji
   obtain ⟨-, o, ho, -⟩ := mem_ready.1 (show j ∈ Region.ready .any ops listed by rw [hr]; simp)
   have hp : pickO ops (j :: r) = o :: pickO ops r := pickO_cons ho r
   rw [hp] at h
   have hTj := hT j (List.mem_cons_self ..)
   have ih := fun (a : Act) (w : World) (h : wpList P ops Q (pickO ops r) a w) => any_tail r (listed.setIfInBounds j true) a w (fun i hi => hT i (List.mem_cons_of_mem _ hi)) hB h
   unfold wpOp
   unfold wpList at h
   simp only [ho]
   split
   ·rename_i hw
    rw [if_pos hw] at h
    exact h.imp (Oper.wp_mono fun a w h => ⟨fun e => (by rw [hTj] at e; cases e), ih a w h⟩) id
   ·rename_i hw
    rw [if_neg hw] at h
    exact ⟨fun e => (by rw [hTj] at e; cases e), ih _ _ h⟩
theorem any_of_flat {tl : List Nat} (hns : Region.noSelect ops = true) (hQ : ∀ d v c a w, Q (.panic c) (Act.put a d v) w → Q (.panic c) a w) :
  ∀ (l : List (Bool × Nat)) (listed : Array Bool) (a : Act) (w : World), Closed ops listed → mixB ops tl l listed = true → wpFlat P ops tl Q l a w → wpAnyE P (fun i => tl.contains i) ops Q (l.length + tl.length) listed a w
 | [], listed, a, w, _, hB, h => by
   simp only [List.length_nil, Nat.zero_add]
   exact any_tail tl listed a w (fun i hi => by simpa using hi) hB h
 | (true, i) :: r, listed, a, w, hcl, hB, h => by
   simp only [mixB, Bool.and_eq_true, List.contains_iff_mem] at hB
   obtain ⟨⟨⟨⟨hr, hf⟩, -⟩, htl⟩, hB⟩ := hB
   obtain ⟨o, v, ho, hy, h⟩ := h
   have ih := any_of_flat hns hQ r (listed.setIfInBounds i true) (a.put o.dst v) w (hcl.step hr) hB h
   rw [List.length_cons, show r.length + 1 + tl.length = r.length + tl.length + 1 by omega]
   refine anyE_first ho (Region.noSelect_spec hns) (fun c a w h => hQ _ _ c a w h) ?_ _ listed a w hcl (Region.free_spec ho hf) hr hy (Below.refl _ _) ih
   intro listed' j hcl' hiu hj hne
   by_cases hjt : tl.contains j = true
   ·have := List.all_eq_true.1 htl j (by simpa using hjt)
    obtain ⟨-, oj', hoj', hall⟩ := mem_ready.1 hj
    have h1 := reach_listed hcl' 12 j i this fun oj hoj e he hb => by
     obtain rfl := Option.some.inj (hoj.symm.trans hoj')
     exact hall e he hb
    rcases Nat.lt_or_ge i listed'.size with h' | h'
    ·simp [h'] at hiu h1; rw [hiu] at h1; cases h1
    ·simp [Array.getElem?_eq_none h'] at h1
   ·simpa using hjt
 | (false, i) :: r, listed, a, w, hcl, hB, h => by
   simp only [mixB, Bool.and_eq_true, beq_iff_eq] at hB
   obtain ⟨hr, hB⟩ := hB
   rw [List.length_cons, show r.length + 1 + tl.length = r.length + tl.length + 1 by omega]
   refine ⟨fun h0 => (by rw [hr] at h0; cases h0), fun j hj => ?_⟩
   have hj' := hj
   rw [hr] at hj'
   have hji : j = i := List.mem_singleton.1 hj'
   subst hji
   exact wpOp_mono (fun a' w' h' => ⟨fun _ => h'.1, any_of_flat hns hQ r _ a' w' (hcl.step hj) hB h'.2⟩) h
theorem mixQ_wp {K next : Act → World → Prop} {w w0 : World} {a : Act} {o : Oper} (h : o.wp P a w next (mixQ K w0 Q)) : o.wp P a w next Q := by
 unfold Oper.wp at *
 generalize (execOp a.eval o).run P w = r at *
 cases r with
 | ok n w' =>
   cases n <;> simp only [Oper.upon] at h ⊢
   case enter f args => exact Calls.mono h fun e w'' he => by cases e <;> exact he
   all_goals exact h
 | halt x w' => cases x <;> simp only [Oper.upon] at h ⊢ <;> exact h
theorem flat_of_mix {tl : List Nat} : ∀ (legs : List Leg) (a : Act) (w : World), ((flatB legs).all fun x => match ops[x.2]? with | some o => !x.1 || calm o | none => false) = true →
  wpMix P ops tl Q legs a w → wpFlat P ops tl Q (flatB legs) a w
 | [], a, w, _, h => h
 | .r i :: r, a, w, hc, h => by
   simp only [flatB, List.all_cons, Bool.and_eq_true] at hc
   have ih := fun (a : Act) (w : World) (h : wpMix P ops tl Q r a w) => flat_of_mix (tl := tl) r a w hc.2 h
   unfold wpMix at h
   unfold flatB wpFlat wpOp
   cases ho : ops[i]? with
   | none => rw [ho] at hc; simp at hc
   | some o =>
     have hp : pickO ops [i] = [o] := pickO_cons ho []
     rw [hp] at h
     unfold wpList at h
     simp only
     split
     ·rename_i hw
      rw [if_pos hw] at h
      refine h.imp (fun h => Oper.wp_mono (fun a w h => ⟨h.1, ih _ _ h.2⟩) (mixQ_wp h)) fun h => ⟨h.1, h.2⟩
     ·rename_i hw
      rw [if_neg hw] at h
      exact ⟨h.1, ih _ _ h.2⟩
 | .q l :: r, a, w, hc, h => by
   simp only [flatB, List.all_append, Bool.and_eq_true] at hc
   have ih := fun (a : Act) (w : World) (h : wpMix P ops tl Q r a w) => flat_of_mix (tl := tl) r a w hc.2 h
   unfold wpMix at h
   unfold flatB
   have key : ∀ (l : List Nat) (a : Act), ((l.map fun i => (true, i)).all fun x => match ops[x.2]? with | some o => !x.1 || calm o | none => false) = true →
     wpQuiet P ops (fun x => ∃ u : Cv w, x = u.x) (fun a' => wpMix P ops tl Q r a' w) (pickO ops l) a → wpFlat P ops tl Q (l.map (fun i => (true, i)) ++ flatB r) a w := by
    intro l
    induction l with
    | nil => intro a _ h; exact ih a w h
    | cons i l ihl =>
      intro a hc h
      simp only [List.map_cons, List.all_cons, Bool.and_eq_true, Bool.not_true, Bool.false_or] at hc
      obtain ⟨hc1, hc2⟩ := hc
      cases ho : ops[i]? with
      | none => rw [ho] at hc1; cases hc1
      | some o =>
        rw [ho] at hc1
        have hp : pickO ops (i :: l) = o :: pickO ops l := pickO_cons ho l
        rw [hp] at h
        unfold wpQuiet at h
        simp only [List.map_cons, List.cons_append]
        unfold wpFlat
        by_cases hw : Region.wanted o (yielded ops a.tmps) = true
        ·rw [if_pos hw] at h
         obtain ⟨v, h1, h2⟩ := h
         exact ⟨o, v, ho, .inl ⟨hw, fun w' hb => calm_quiet hc1 (h1 w' ⟨⟨w', hb⟩, rfl⟩)⟩, ihl _ hc2 h2⟩
        ·rw [if_neg hw] at h
         exact ⟨o, undef, ho, .inr ⟨by simpa using hw, rfl⟩, ihl _ hc2 h⟩
   exact key l a hc.1 h
def mixAll (legs : List Leg) (tl : List Nat) (ops : Array Oper) : Bool :=
 Region.noSelect ops && ((flatB legs).length + tl.length == ops.size) && ((flatB legs).all fun x => match ops[x.2]? with | some o => !x.1 || calm o | none => false) && mixB ops tl (flatB legs) (Array.replicate ops.size false)
theorem wp_region_mix {id : Nat} {a : Act} {W : World} {l : List Oper} (legs : List Leg) (tl : List Nat) (hm : P.follows .mixedOrders = true) (hB : mixAll legs tl l.toArray = true)
  (hQ : ∀ d v c a w, Q (.panic c) (Act.put a d v) w → Q (.panic c) a w) (h : ∀ W1, Below W.heap.size W W1 → W1.heap.size = W.heap.size → wpMix P l.toArray tl Q legs a W1) : (Code.region id l.toArray true).wp P Q a W := by
 unfold mixAll at hB
 simp only [Bool.and_eq_true, beq_iff_eq] at hB
 obtain ⟨⟨⟨h1, h2⟩, h3⟩, h4⟩ := hB
 refine wp_region_any hm (wpAny_of_E (T := fun i => tl.contains i) _ _ _ _ ?_)
 rw [← h2]
 refine any_of_flat h1 hQ _ _ _ _ ?_ (by rw [h2]; exact h4) (flat_of_mix legs a _ h3 (h _ ⟨rfl, rfl, rfl, Nat.le_refl _, fun _ _ => rfl⟩ rfl))
 intro j oj hj hl
 rw [h2] at hl
 rcases Nat.lt_or_ge j l.toArray.size with h' | h'
 ·simp [show j < l.length by simpa using h'] at hl
 ·simp [show ¬ j < l.length by simpa using h'] at hl
theorem wpMix_q {tl : List Nat} {l : List Nat} {r : List Leg} {a : Act} {w : World} (h : wpQuiet P ops (fun x => ∃ u : Cv w, x = u.x) (fun a' => wpMix P ops tl Q r a' w) (pickO ops l) a) : wpMix P ops tl Q (.q l :: r) a w := h
theorem wpMix_r {tl : List Nat} {i : Nat} {r : List Leg} {a : Act} {w : World} (h : wpList P ops (mixQ (wpMix P ops tl Q r) w Q) (pickO ops [i]) a w) : wpMix P ops tl Q (.r i :: r) a w := h
theorem wpMix_nil {tl : List Nat} {a : Act} {w : World} (h : wpList P ops Q (pickO ops tl) a w) : wpMix P ops tl Q [] a w := h
end
end Go.Proofs.Gv
