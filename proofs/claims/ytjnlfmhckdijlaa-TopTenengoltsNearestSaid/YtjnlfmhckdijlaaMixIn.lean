/- The law of XMix inside the wide fence: a drawn region that calls yield; what only reads may come up at any time ahead of the round that waits for it; one walk serves every order. -/
import Derived.OrdersIn
import Derived.TacticsIn
import Derived.Test.YtjnlfmhckdijlaaMix
set_option linter.unusedSimpArgs false
set_option linter.unusedVariables false
namespace Go.Proofs.Gv
open Go Go.RowKit

section
variable {F : Fence} {n : Nat} {P : Program} {ops : Array Oper} {Q : Exit → Act → World → Prop}
def noDefer (ops : Array Oper) : Bool := ops.toList.all fun o => match o.op with | .defer _ => false | _ => true
theorem noDefer_spec {ops : Array Oper} (h : noDefer ops = true) {j : Nat} {o : Oper} (ho : ops[j]? = some o) : ∀ c, o.op ≠ .defer c := fun c hc => by
  have := List.all_eq_true.1 h o (by simpa using Array.mem_of_getElem? ho)
  rw [hc] at this
  cases this
/-- A fence that shuts nothing out: the wide one, and a round within it. -/
structure FnW (P : Program) (F : Fence) : Prop where
  fn : ∀ f, F.fn f
  dp : F.depth = none
  call : ∀ {m : Nat} {f : FuncId} {args : Array Value} {w : World} {R : Ending → World → Prop}, Calls P f args w R → CallsIn F m P f args w R
theorem FnW.wide : FnW P Fence.wide := ⟨fun _ => trivial, rfl, fun h => callsIn_wide.2 h⟩
theorem FnW.round (l : Nat) : FnW P (Fence.wide.inRound l) := ⟨fun _ => trivial, rfl, fun h => callsIn_wide.2 h⟩
/-- This world. -/
structure Cw (W : World) where
  x : World
  h : x = W
theorem cw_some (W : World) : Nonempty (Cw W) := ⟨⟨W, rfl⟩⟩
/-- In state a and in this world the operation leaves v in its temporary, and the world as it is. -/
def Yw (P : Program) (ops : Array Oper) (W : World) (o : Oper) (v : Value) (a : Act) : Prop :=
  (Region.wanted o (yielded ops a.tmps) = true ∧ o.quietAt P a (fun x => ∃ u : Cw W, x = u.x) W v) ∨ (Region.wanted o (yielded ops a.tmps) = false ∧ v = undef)
theorem Yw.of_same {W : World} {o : Oper} {v : Value} {a a' : Act} (hy : Yw P ops W o v a) (he : execOp a'.eval o = execOp a.eval o) (hw : Region.wanted o (yielded ops a'.tmps) = Region.wanted o (yielded ops a.tmps)) : Yw P ops W o v a' := by
  unfold Yw Oper.quietAt at *
  rw [he, hw]
  exact hy
theorem Yw.wpOpIn (hfn : FnW P F) (hnd : noDefer ops = true) {w : World} {i : Nat} {o : Oper} {v : Value} {a : Act} (hi : ops[i]? = some o) (hy : Yw P ops w o v a) {K : Act → World → Prop} (h : K (a.put o.dst v) w) : wpOpIn F n P ops Q i K a w := by
  unfold Go.wpOpIn
  simp only [hi]
  rcases hy with ⟨h1, h2⟩ | ⟨h1, rfl⟩
  · simp only [h1, if_true, Oper.wpIn]
    refine ⟨fun f _ => hfn.fn f, ?_⟩
    rw [Oper.semAt_eq _ _ _ (noDefer_spec hnd hi)]
    unfold Oper.quietAt at h2
    generalize (execOp a.eval o).run P w = r at *
    cases r with
    | ok x w' =>
      cases x <;> simp only [Oper.quietUpon] at h2 <;> simp only [Oper.uponIn]
      case value u =>
        obtain ⟨e1, e2⟩ := h2
        rw [e1, e2]
        exact h
      case skip =>
        obtain ⟨e1, e2⟩ := h2
        rw [e1, ← e2]
        exact h
      case enter f args =>
        obtain ⟨e1, hc⟩ := h2
        rw [e1]
        refine ⟨fun e => (by rw [hfn.dp] at e; cases e), (hfn.call hc).mono ?_⟩
        rintro e w'' ⟨rfl, u, rfl⟩
        rw [u.h]
        exact h
    | halt x w' => simp only [Oper.quietUpon] at h2
  · simp only [h1, Bool.false_eq_true, if_false]
    exact ⟨fun f _ => hfn.fn f, h⟩
/-- An operation oj, apart from oi: whether oi's value is there already makes no difference to it, and it makes none to oi. -/
theorem wpOpIn_putw (hfn : FnW P F) (hnd : noDefer ops = true) {W : World} {j : Nat} {oi oj : Oper} {v : Value} (hj : ops[j]? = some oj) (hap : oi.apart ops oj = true)
    (hsi : ∀ cs b, oi.op ≠ .select cs b) (hsj : ∀ cs b, oj.op ≠ .select cs b) (hQ : ∀ c a w, Q (.panic c) (a.put oi.dst v) w → Q (.panic c) a w) {K : Act → World → Prop} {a : Act} {w : World}
    (hy : Yw P ops W oi v a) (h : wpOpIn F n P ops Q j K (a.put oi.dst v) w) :
    wpOpIn F n P ops Q j (fun a' w' => Yw P ops W oi v a' ∧ K (a'.put oi.dst v) w') a w := by
  obtain ⟨h1, h2, h3⟩ := Oper.apart_spec hap
  have keep : ∀ (a : Act), Yw P ops W oi v a → ∀ u, Yw P ops W oi v (a.put oj.dst u) := fun a hy u =>
    hy.of_same (execOp_put oi hsi a oj.dst u h3) (wanted_put oi a oj.dst u h3)
  have keepD : ∀ d, Yw P ops W oi v { a with defers := d :: a.defers } := fun d => hy
  have hnj := noDefer_spec hnd hj
  unfold wpOpIn at *
  simp only [hj] at *
  rw [wanted_put oj a oi.dst v h1] at h
  split
  · rename_i hw
    simp only [hw, if_true] at h
    unfold Oper.wpIn at *
    refine ⟨fun f _ => hfn.fn f, ?_⟩
    have h := h.2
    rw [Oper.semAt_eq _ _ _ hnj, execOp_put oj hsj a oi.dst v h1] at h
    rw [Oper.semAt_eq _ _ _ hnj]
    generalize (execOp a.eval oj).run P w = r at *
    cases r with
    | ok x w' =>
      cases x <;> simp only [Oper.uponIn] at h ⊢
      case value u => exact ⟨keep a hy u, by rw [← Act.put_comm a v u h2]; exact h⟩
      case skip => exact ⟨keep a hy _, by rw [← Act.put_comm a v undef h2]; exact h⟩
      case defer d =>
        refine ⟨keep _ (keepD d) _, ?_⟩
        rw [← Act.put_comm _ v undef h2, ← Act.put_defers]
        exact h
      case enter f args =>
        refine ⟨h.1, CallsIn.mono h.2 fun e w'' he => ?_⟩
        cases e with
        | returned u => exact ⟨keep a hy u, by rw [← Act.put_comm a v u h2]; exact he⟩
        | panicked c => exact hQ _ _ _ he
        | outgrown => exact he
      case row row args => exact ⟨h.1, RowsIn.mono h.2 fun u w'' he => ⟨keep a hy u, by rw [← Act.put_comm a v u h2]; exact he⟩⟩
      case round l f tmps assign body =>
        refine ⟨h.1, RoundIn.mono h.2 fun e w'' he => ?_⟩
        cases e with
        | returned u => exact ⟨keep a hy u, by rw [← Act.put_comm a v u h2]; exact he⟩
        | panicked c => exact hQ _ _ _ he
        | outgrown => exact he
    | halt x w' =>
      cases x <;> simp only [Oper.uponIn] at h ⊢
      case panic u => exact hQ _ _ _ h
  · rename_i hw
    simp only [hw] at h
    exact ⟨fun f _ => hfn.fn f, keep a hy _, by rw [← Act.put_comm a v undef h2]; exact h.2⟩
/-- Whatever order; what T does not mark leaves the world as it is. -/
def wpAnyW (F : Fence) (n : Nat) (P : Program) (T : Nat → Bool) (ops : Array Oper) (Q : Exit → Act → World → Prop) : Nat → Array Bool → Act → World → Prop
  | 0, listed, a, w => Region.ready .any ops listed = [] ∧ Q .normal a w
  | fuel + 1, listed, a, w =>
    (Region.ready .any ops listed = [] → Q .normal a w) ∧
    ∀ i ∈ Region.ready .any ops listed, wpOpIn F n P ops Q i (fun a' w' => (T i = false → w' = w) ∧ wpAnyW F n P T ops Q fuel (listed.setIfInBounds i true) a' w') a w
theorem wpAnyIn_of_W {T : Nat → Bool} : ∀ (fuel : Nat) (listed : Array Bool) (a : Act) (w : World), wpAnyW F n P T ops Q fuel listed a w → wpAnyIn F n P .any ops Q fuel listed a w
  | 0, _, _, _, h => h
  | fuel + 1, _, _, _, h => ⟨h.1, fun i hi => wpOpIn_mono (fun _ _ h' => wpAnyIn_of_W fuel _ _ _ h'.2) (h.2 i hi)⟩
theorem wpAnyW_mono {T T' : Nat → Bool} (hT : ∀ i, T' i = false → T i = false) : ∀ (fuel : Nat) (listed : Array Bool) (a : Act) (w : World), wpAnyW F n P T ops Q fuel listed a w → wpAnyW F n P T' ops Q fuel listed a w
  | 0, _, _, _, h => h
  | fuel + 1, _, _, _, h => ⟨h.1, fun i hi => wpOpIn_mono (fun _ _ h' => ⟨fun e => h'.1 (hT _ e), wpAnyW_mono hT fuel _ _ _ h'.2⟩) (h.2 i hi)⟩
theorem anyW_first (hfn : FnW P F) (hnd : noDefer ops = true) {T : Nat → Bool} {i : Nat} {oi : Oper} {v : Value} (hi : ops[i]? = some oi) (hsel : ∀ (j : Nat) (o : Oper) cs b, ops[j]? = some o → o.op ≠ .select cs b)
    (hQ : ∀ c a w, Q (.panic c) (a.put oi.dst v) w → Q (.panic c) a w)
    (hT : ∀ (listed : Array Bool) (j : Nat), Closed ops listed → listed.getD i true = false → j ∈ Region.ready .any ops listed → j ≠ i → T j = false) :
    ∀ (fuel : Nat) (listed : Array Bool) (a : Act) (w : World), Closed ops listed →
      (∀ j oj, ops[j]? = some oj → j ≠ i → listed.getD j true = false → (∀ e ∈ oj.after, Region.binds .any e = true → e.on ≠ i) → oi.apart ops oj = true) →
      i ∈ Region.ready .any ops listed → Yw P ops w oi v a →
      wpAnyW F n P T ops Q fuel (listed.setIfInBounds i true) (a.put oi.dst v) w → wpAnyW F n P T ops Q (fuel + 1) listed a w := by
  intro fuel
  induction fuel with
  | zero =>
    intro listed a w _ _ hr hy H
    refine ⟨fun h => (by rw [h] at hr; cases hr), fun j hj => ?_⟩
    by_cases hji : j = i
    · subst hji; exact hy.wpOpIn hfn hnd hi ⟨fun _ => rfl, H⟩
    · have := ready_mono hj hji
      rw [H.1] at this
      cases this
  | succ fuel ih =>
    intro listed a w hcl hfree hr hy H
    refine ⟨fun h => (by rw [h] at hr; cases hr), fun j hj => ?_⟩
    by_cases hji : j = i
    · subst hji; exact hy.wpOpIn hfn hnd hi ⟨fun _ => rfl, H⟩
    · have h1 := H.2 j (ready_mono hj hji)
      obtain ⟨hjun, oj, hoj, hall⟩ := mem_ready.1 hj
      have hiun := (mem_ready.1 hr).1
      have hnot : ∀ e ∈ oj.after, Region.binds .any e = true → e.on ≠ i := fun e he hb heq => by
        have h1 := hall e he hb
        rw [heq] at h1
        rcases Nat.lt_or_ge i listed.size with h' | h'
        · simp [h'] at hiun h1; rw [hiun] at h1; cases h1
        · simp [Array.getElem?_eq_none h'] at h1
      have hTj := hT listed j hcl hiun hj hji
      have h2 := wpOpIn_putw hfn hnd hoj (hfree j oj hoj hji hjun hnot) (fun cs b => hsel i oi cs b hi) (fun cs b => hsel j oj cs b hoj) hQ hy h1
      have hfree' : ∀ k ok, ops[k]? = some ok → k ≠ i → (listed.setIfInBounds j true).getD k true = false →
          (∀ e ∈ ok.after, Region.binds .any e = true → e.on ≠ i) → oi.apart ops ok = true := fun k ok hk hki hun hno => by
        refine hfree k ok hk hki ?_ hno
        by_cases hjk : j = k
        · subst hjk; exact hjun
        · rw [getD_set_ne true hjk] at hun; exact hun
      refine wpOpIn_mono (fun a' w' h3 => ⟨h3.2.1, ?_⟩) h2
      obtain rfl := h3.2.1 hTj
      refine ih (listed.setIfInBounds j true) a' w' (hcl.step hj) hfree' (ready_mono hr (Ne.symm hji)) h3.1 ?_
      rw [Array.setIfInBounds_comm _ _ hji]
      exact h3.2.2
def mixQW (K : Act → World → Prop) (Q : Exit → Act → World → Prop) : Exit → Act → World → Prop
  | .normal, a, w' => K a w'
  | e, a, w' => Q e a w'
def wpMixW (F : Fence) (n : Nat) (P : Program) (ops : Array Oper) (Q : Exit → Act → World → Prop) : List Leg → Act → World → Prop
  | [], a, w => Q .normal a w
  | .q l :: r, a, w => wpQuiet P ops (fun x => ∃ u : Cw w, x = u.x) (fun a' => wpMixW F n P ops Q r a' w) (pickO ops l) a
  | .r i :: r, a, w => wpListIn F n P ops (mixQW (wpMixW F n P ops Q r) Q) (pickO ops [i]) a w
theorem mixQW_ok {K : Act → World → Prop} {w' : World} {a : Act} (h : K a w') : mixQW K Q .normal a w' := h
def mixWB (ops : Array Oper) : List (Bool × Nat) → Array Bool → Bool
  | [], listed => (Region.ready .any ops listed).isEmpty
  | (true, i) :: r, listed => (Region.ready .any ops listed).contains i && Region.free .any ops listed i && r.all (fun t => t.1 || reachB ops 12 t.2 i) && mixWB ops r (listed.setIfInBounds i true)
  | (false, i) :: r, listed => Region.ready .any ops listed == [i] && mixWB ops r (listed.setIfInBounds i true)
def wpFlatW (F : Fence) (n : Nat) (P : Program) (ops : Array Oper) (Q : Exit → Act → World → Prop) : List (Bool × Nat) → Act → World → Prop
  | [], a, w => Q .normal a w
  | (true, i) :: r, a, w => ∃ o v, ops[i]? = some o ∧ Yw P ops w o v a ∧ wpFlatW F n P ops Q r (a.put o.dst v) w
  | (false, i) :: r, a, w => wpOpIn F n P ops Q i (wpFlatW F n P ops Q r) a w
def marks (l : List (Bool × Nat)) (j : Nat) : Bool := l.any fun t => !t.1 && t.2 == j
theorem marks_cons {x : Bool × Nat} {r : List (Bool × Nat)} {j : Nat} (h : marks (x :: r) j = false) : marks r j = false := by
  unfold marks at *
  rw [List.any_cons, Bool.or_eq_false_iff] at h
  exact h.2
theorem anyW_of_flat (hfn : FnW P F) (hnd : noDefer ops = true) (hns : Region.noSelect ops = true) (hQ : ∀ d v c a w, Q (.panic c) (Act.put a d v) w → Q (.panic c) a w) :
    ∀ (l : List (Bool × Nat)) (listed : Array Bool) (a : Act) (w : World), Closed ops listed → mixWB ops l listed = true → wpFlatW F n P ops Q l a w → wpAnyW F n P (marks l) ops Q l.length listed a w
  | [], listed, a, w, _, hB, h => ⟨by simpa [mixWB] using hB, h⟩
  | (true, i) :: r, listed, a, w, hcl, hB, h => by
    simp only [mixWB, Bool.and_eq_true, List.contains_iff_mem] at hB
    obtain ⟨⟨⟨hr, hf⟩, htl⟩, hB⟩ := hB
    obtain ⟨o, v, ho, hy, h⟩ := h
    have ih := wpAnyW_mono (T' := marks ((true, i) :: r)) (fun j e => marks_cons e) _ _ _ _ (anyW_of_flat hfn hnd hns hQ r (listed.setIfInBounds i true) (a.put o.dst v) w (hcl.step hr) hB h)
    refine anyW_first hfn hnd ho (Region.noSelect_spec hns) (fun c a w h => hQ _ _ c a w h) ?_ _ listed a w hcl (Region.free_spec ho hf) hr hy ih
    intro listed' j hcl' hiu hj hne
    by_cases hm : marks ((true, i) :: r) j = true
    · have hm' : marks r j = true := by
        unfold marks at *
        rw [List.any_cons, Bool.or_eq_true] at hm
        rcases hm with hm | hm
        · simp at hm
        · exact hm
      unfold marks at hm'
      rw [List.any_eq_true] at hm'
      obtain ⟨t, ht, htj⟩ := hm'
      simp only [Bool.and_eq_true, Bool.not_eq_true', beq_iff_eq] at htj
      have := List.all_eq_true.1 htl t ht
      rw [htj.1, Bool.false_or, htj.2] at this
      obtain ⟨-, oj', hoj', hall⟩ := mem_ready.1 hj
      have h1 := reach_listed hcl' 12 j i this fun oj hoj e he hb => by
        obtain rfl := Option.some.inj (hoj.symm.trans hoj')
        exact hall e he hb
      rcases Nat.lt_or_ge i listed'.size with h' | h'
      · simp [h'] at hiu h1; rw [hiu] at h1; cases h1
      · simp [Array.getElem?_eq_none h'] at h1
    · simpa using hm
  | (false, i) :: r, listed, a, w, hcl, hB, h => by
    simp only [mixWB, Bool.and_eq_true, beq_iff_eq] at hB
    obtain ⟨hr, hB⟩ := hB
    refine ⟨fun h0 => (by rw [hr] at h0; cases h0), fun j hj => ?_⟩
    have hj' := hj
    rw [hr] at hj'
    have hji : j = i := List.mem_singleton.1 hj'
    subst hji
    refine wpOpIn_mono (fun a' w' h' => ⟨fun e => ?_, wpAnyW_mono (fun j e => marks_cons e) _ _ _ _ (anyW_of_flat hfn hnd hns hQ r _ a' w' (hcl.step hj) hB h')⟩) h
    unfold marks at e
    rw [List.any_cons] at e
    simp at e
theorem mixQW_wp {K next : Act → World → Prop} {w : World} {a : Act} {o : Oper} (h : o.wpIn F n P a w next (mixQW K Q)) : o.wpIn F n P a w next Q := by
  unfold Oper.wpIn at *
  refine ⟨h.1, ?_⟩
  have h := h.2
  generalize (o.semAt F.round a.eval).run P w = r at *
  cases r with
  | ok x w' =>
    cases x <;> simp only [Oper.uponIn] at h ⊢
    case enter f args => exact ⟨h.1, CallsIn.mono h.2 fun e w'' he => by cases e <;> exact he⟩
    case round l f tmps assign body => exact ⟨h.1, RoundIn.mono h.2 fun e w'' he => by cases e <;> exact he⟩
    all_goals exact h
  | halt x w' => cases x <;> simp only [Oper.uponIn] at h ⊢ <;> exact h
theorem flatW_of_mix (hfn : FnW P F) : ∀ (legs : List Leg) (a : Act) (w : World), ((flatB legs).all fun x => (ops[x.2]?).isSome) = true →
    wpMixW F n P ops Q legs a w → wpFlatW F n P ops Q (flatB legs) a w
  | [], a, w, _, h => h
  | .r i :: r, a, w, hc, h => by
    simp only [flatB, List.all_cons, Bool.and_eq_true] at hc
    have ih := fun (a : Act) (w : World) (h : wpMixW F n P ops Q r a w) => flatW_of_mix hfn r a w hc.2 h
    unfold wpMixW at h
    unfold flatB wpFlatW wpOpIn
    cases ho : ops[i]? with
    | none => rw [ho] at hc; simp at hc
    | some o =>
      have hp : pickO ops [i] = [o] := pickO_cons ho []
      rw [hp] at h
      unfold wpListIn at h
      simp only
      split
      · rename_i hw
        rw [if_pos hw] at h
        exact Oper.wpIn_mono (fun a w h => ih _ _ h) (mixQW_wp h)
      · rename_i hw
        rw [if_neg hw] at h
        exact ⟨fun f _ => hfn.fn f, ih _ _ h.2⟩
  | .q l :: r, a, w, hc, h => by
    simp only [flatB, List.all_append, Bool.and_eq_true] at hc
    have ih := fun (a : Act) (w : World) (h : wpMixW F n P ops Q r a w) => flatW_of_mix hfn r a w hc.2 h
    unfold wpMixW at h
    unfold flatB
    have key : ∀ (l : List Nat) (a : Act), ((l.map fun i => (true, i)).all fun x => (ops[x.2]?).isSome) = true →
        wpQuiet P ops (fun x => ∃ u : Cw w, x = u.x) (fun a' => wpMixW F n P ops Q r a' w) (pickO ops l) a → wpFlatW F n P ops Q (l.map (fun i => (true, i)) ++ flatB r) a w := by
      intro l
      induction l with
      | nil => intro a _ h; exact ih a w h
      | cons i l ihl =>
        intro a hc h
        simp only [List.map_cons, List.all_cons, Bool.and_eq_true] at hc
        obtain ⟨hc1, hc2⟩ := hc
        cases ho : ops[i]? with
        | none => rw [ho] at hc1; cases hc1
        | some o =>
          have hp : pickO ops (i :: l) = o :: pickO ops l := pickO_cons ho l
          rw [hp] at h
          unfold wpQuiet at h
          simp only [List.map_cons, List.cons_append]
          unfold wpFlatW
          by_cases hw : Region.wanted o (yielded ops a.tmps) = true
          · rw [if_pos hw] at h
            obtain ⟨v, h1, h2⟩ := h
            exact ⟨o, v, ho, .inl ⟨hw, h1 w ⟨⟨w, rfl⟩, rfl⟩⟩, ihl _ hc2 h2⟩
          · rw [if_neg hw] at h
            exact ⟨o, undef, ho, .inr ⟨by simpa using hw, rfl⟩, ihl _ hc2 h⟩
    exact key l a hc.1 h
def mixAllW (legs : List Leg) (ops : Array Oper) : Bool :=
  noDefer ops && Region.noSelect ops && ((flatB legs).length == ops.size) && ((flatB legs).all fun x => (ops[x.2]?).isSome) && mixWB ops (flatB legs) (Array.replicate ops.size false)
theorem wpIn_region_mix {id : Nat} {a : Act} {W : World} {l : List Oper} (legs : List Leg) (hfn : FnW P F) (hm : P.follows .mixedOrders = true) (hB : mixAllW legs l.toArray = true)
    (hQ : ∀ d v c a w, Q (.panic c) (Act.put a d v) w → Q (.panic c) a w) (h : wpMixW F n P l.toArray Q legs a W.drew) : (Code.region id l.toArray true).wpIn F n P Q a W := by
  unfold mixAllW at hB
  simp only [Bool.and_eq_true, beq_iff_eq] at hB
  obtain ⟨⟨⟨⟨h0, h1⟩, h2⟩, h3⟩, h4⟩ := hB
  refine wpIn_region_any hm (wpAnyIn_of_W (T := marks (flatB legs)) _ _ _ _ ?_)
  rw [← h2]
  refine anyW_of_flat hfn h0 h1 hQ _ _ _ _ ?_ (by rw [h2]; exact h4) (flatW_of_mix hfn legs a _ h3 h)
  intro j oj hj hl
  rw [h2] at hl
  rcases Nat.lt_or_ge j l.toArray.size with h' | h'
  · simp [show j < l.length by simpa using h'] at hl
  · simp [show ¬ j < l.length by simpa using h'] at hl
theorem wpMixW_q {l : List Nat} {r : List Leg} {a : Act} {w : World} (h : wpQuiet P ops (fun x => ∃ u : Cw w, x = u.x) (fun a' => wpMixW F n P ops Q r a' w) (pickO ops l) a) : wpMixW F n P ops Q (.q l :: r) a w := h
theorem wpMixW_r {i : Nat} {r : List Leg} {a : Act} {w : World} (h : wpListIn F n P ops (mixQW (wpMixW F n P ops Q r) Q) (pickO ops [i]) a w) : wpMixW F n P ops Q (.r i :: r) a w := h
theorem wpMixW_nil {a : Act} {w : World} (h : Q .normal a w) : wpMixW F n P ops Q [] a w := h
end
end Go.Proofs.Gv
