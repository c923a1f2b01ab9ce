/- The law of XMixC inside a fence: a drawn region with calls, stores, while loads may still come up: a class of worlds that every operation keeps. -/
import Derived.Test.YtjlgjodjakkjgaaDoorMixIn
import Derived.Test.YtjlgjodjakkjgaaDoorMixC
set_option linter.unusedSimpArgs false
set_option linter.unusedVariables false
namespace Go.Proofs.Gv
open Go Go.RowKit
section
variable {F : Fence} {n : Nat} {P : Program} {ops : Array Oper} {Q : Exit → Act → World → Prop} {C : World → Prop}
theorem Yc.wpOpIn (hfn : FnW P F) (hnd : noDefer ops = true) {w : World} {i : Nat} {o : Oper} {v : Value} {a : Act} (hi : ops[i]? = some o) (hy : Yc P ops C o v a) (hw : C w) {K : Act → World → Prop} (h : K (a.put o.dst v) w) : wpOpIn F n P ops Q i K a w := by
  unfold Go.wpOpIn
  simp only [hi]
  rcases hy with ⟨h1, h2⟩ | ⟨h1, rfl⟩
  · simp only [h1, if_true, Oper.wpIn]
    refine ⟨fun f _ => hfn.fn f, ?_⟩
    rw [Oper.semAt_eq _ _ _ (noDefer_spec hnd hi), h2 w hw]
    exact h
  · simp only [h1, Bool.false_eq_true, if_false]
    exact ⟨fun f _ => hfn.fn f, h⟩
/-- An operation oj, apart from oi: whether oi's value is there already makes no difference to it, and it makes none to oi. -/
theorem wpOpIn_putc (hfn : FnW P F) (hnd : noDefer ops = true) {j : Nat} {oi oj : Oper} {v : Value} (hj : ops[j]? = some oj) (hap : oi.apart ops oj = true)
    (hsi : ∀ cs b, oi.op ≠ .select cs b) (hsj : ∀ cs b, oj.op ≠ .select cs b) (hQ : ∀ c a w, Q (.panic c) (a.put oi.dst v) w → Q (.panic c) a w) {K : Act → World → Prop} {a : Act} {w : World}
    (hy : Yc P ops C oi v a) (h : wpOpIn F n P ops Q j K (a.put oi.dst v) w) :
    wpOpIn F n P ops Q j (fun a' w' => Yc P ops C oi v a' ∧ K (a'.put oi.dst v) w') a w := by
  obtain ⟨h1, h2, h3⟩ := Oper.apart_spec hap
  have keep : ∀ (a : Act), Yc P ops C oi v a → ∀ u, Yc P ops C oi v (a.put oj.dst u) := fun a hy u =>
    hy.of_same (execOp_put oi hsi a oj.dst u h3) (wanted_put oi a oj.dst u h3)
  have keepD : ∀ d, Yc P ops C oi v { a with defers := d :: a.defers } := fun d => hy
  have hnj := noDefer_spec hnd hj
  unfold wpOpIn at *
  simp only [hj] at *
  rw [wanted_put oj a oi.dst v h1] at h
  split
  · rename_i hw
    simp only [hw, if_true] at h
    unfold Oper.wpIn at *
    refine ⟨fun f _ => hfn.fn f, ?_⟩
    have h := h.2
    rw [Oper.semAt_eq _ _ _ hnj, execOp_put oj hsj a oi.dst v h1] at h
    rw [Oper.semAt_eq _ _ _ hnj]
    generalize (execOp a.eval oj).run P w = r at *
    cases r with
    | ok x w' =>
      cases x <;> simp only [Oper.uponIn] at h ⊢
      case value u => exact ⟨keep a hy u, by rw [← Act.put_comm a v u h2]; exact h⟩
      case skip => exact ⟨keep a hy _, by rw [← Act.put_comm a v undef h2]; exact h⟩
      case defer d =>
        refine ⟨keep _ (keepD d) _, ?_⟩
        rw [← Act.put_comm _ v undef h2, ← Act.put_defers]
        exact h
      case enter f args =>
        refine ⟨h.1, CallsIn.mono h.2 fun e w'' he => ?_⟩
        cases e with
        | returned u => exact ⟨keep a hy u, by rw [← Act.put_comm a v u h2]; exact he⟩
        | panicked c => exact hQ _ _ _ he
        | outgrown => exact he
      case row row args => exact ⟨h.1, RowsIn.mono h.2 fun u w'' he => ⟨keep a hy u, by rw [← Act.put_comm a v u h2]; exact he⟩⟩
      case round l f tmps assign body =>
        refine ⟨h.1, RoundIn.mono h.2 fun e w'' he => ?_⟩
        cases e with
        | returned u => exact ⟨keep a hy u, by rw [← Act.put_comm a v u h2]; exact he⟩
        | panicked c => exact hQ _ _ _ he
        | outgrown => exact he
    | halt x w' =>
      cases x <;> simp only [Oper.uponIn] at h ⊢
      case panic u => exact hQ _ _ _ h
  · rename_i hw
    simp only [hw] at h
    exact ⟨fun f _ => hfn.fn f, keep a hy _, by rw [← Act.put_comm a v undef h2]; exact h.2⟩
/-- Whatever order, each operation keeping the class. -/
def wpAnyCI (F : Fence) (n : Nat) (P : Program) (C : World → Prop) (ops : Array Oper) (Q : Exit → Act → World → Prop) : Nat → Array Bool → Act → World → Prop
  | 0, listed, a, w => Region.ready .any ops listed = [] ∧ Q .normal a w
  | fuel + 1, listed, a, w =>
    (Region.ready .any ops listed = [] → Q .normal a w) ∧
    ∀ i ∈ Region.ready .any ops listed, wpOpIn F n P ops Q i (fun a' w' => C w' ∧ wpAnyCI F n P C ops Q fuel (listed.setIfInBounds i true) a' w') a w
theorem wpAnyIn_of_C : ∀ (fuel : Nat) (listed : Array Bool) (a : Act) (w : World), wpAnyCI F n P C ops Q fuel listed a w → wpAnyIn F n P .any ops Q fuel listed a w
  | 0, _, _, _, h => h
  | fuel + 1, _, _, _, h => ⟨h.1, fun i hi => wpOpIn_mono (fun _ _ h' => wpAnyIn_of_C fuel _ _ _ h'.2) (h.2 i hi)⟩
theorem anyCI_first (hfn : FnW P F) (hnd : noDefer ops = true) {i : Nat} {oi : Oper} {v : Value} (hi : ops[i]? = some oi) (hsel : ∀ (j : Nat) (o : Oper) cs b, ops[j]? = some o → o.op ≠ .select cs b)
    (hQ : ∀ c a w, Q (.panic c) (a.put oi.dst v) w → Q (.panic c) a w) :
    ∀ (fuel : Nat) (listed : Array Bool) (a : Act) (w : World),
      (∀ j oj, ops[j]? = some oj → j ≠ i → listed.getD j true = false → (∀ e ∈ oj.after, Region.binds .any e = true → e.on ≠ i) → oi.apart ops oj = true) →
      i ∈ Region.ready .any ops listed → Yc P ops C oi v a → C w →
      wpAnyCI F n P C ops Q fuel (listed.setIfInBounds i true) (a.put oi.dst v) w → wpAnyCI F n P C ops Q (fuel + 1) listed a w := by
  intro fuel
  induction fuel with
  | zero =>
    intro listed a w _ hr hy hw H
    refine ⟨fun h => (by rw [h] at hr; cases hr), fun j hj => ?_⟩
    by_cases hji : j = i
    · subst hji; exact hy.wpOpIn hfn hnd hi hw ⟨hw, H⟩
    · have := ready_mono hj hji
      rw [H.1] at this
      cases this
  | succ fuel ih =>
    intro listed a w hfree hr hy hw H
    refine ⟨fun h => (by rw [h] at hr; cases hr), fun j hj => ?_⟩
    by_cases hji : j = i
    · subst hji; exact hy.wpOpIn hfn hnd hi hw ⟨hw, H⟩
    · have h1 := H.2 j (ready_mono hj hji)
      obtain ⟨hjun, oj, hoj, hall⟩ := mem_ready.1 hj
      have hiun := (mem_ready.1 hr).1
      have hnot : ∀ e ∈ oj.after, Region.binds .any e = true → e.on ≠ i := fun e he hb heq => by
        have h1 := hall e he hb
        rw [heq] at h1
        rcases Nat.lt_or_ge i listed.size with h' | h'
        · simp [h'] at hiun h1; rw [hiun] at h1; cases h1
        · simp [Array.getElem?_eq_none h'] at h1
      have h2 := wpOpIn_putc hfn hnd hoj (hfree j oj hoj hji hjun hnot) (fun cs b => hsel i oi cs b hi) (fun cs b => hsel j oj cs b hoj) hQ hy h1
      have hfree' : ∀ k ok, ops[k]? = some ok → k ≠ i → (listed.setIfInBounds j true).getD k true = false →
          (∀ e ∈ ok.after, Region.binds .any e = true → e.on ≠ i) → oi.apart ops ok = true := fun k ok hk hki hun hno => by
        refine hfree k ok hk hki ?_ hno
        by_cases hjk : j = k
        · subst hjk; exact hjun
        · rw [getD_set_ne true hjk] at hun; exact hun
      refine wpOpIn_mono (fun a' w' h3 => ⟨h3.2.1, ?_⟩) h2
      refine ih (listed.setIfInBounds j true) a' w' hfree' (ready_mono hr (Ne.symm hji)) h3.1 h3.2.1 ?_
      rw [Array.setIfInBounds_comm _ _ hji]
      exact h3.2.2
def mixQCI (C : World → Prop) (K : Act → World → Prop) (Q : Exit → Act → World → Prop) : Exit → Act → World → Prop
  | .normal, a, w' => C w' ∧ K a w'
  | e, a, w' => Q e a w'
def wpMixCI (F : Fence) (n : Nat) (P : Program) (ops : Array Oper) (C : World → Prop) (Q : Exit → Act → World → Prop) : List Leg → Act → World → Prop
  | [], a, w => Q .normal a w
  | .q l :: r, a, w => wpQuiet P ops C (fun a' => wpMixCI F n P ops C Q r a' w) (pickO ops l) a
  | .r i :: r, a, w => wpListIn F n P ops (mixQCI C (wpMixCI F n P ops C Q r) Q) (pickO ops [i]) a w
theorem mixQCI_ok {K : Act → World → Prop} {w' : World} {a : Act} (hb : C w') (h : K a w') : mixQCI C K Q .normal a w' := ⟨hb, h⟩
def mixCBI (ops : Array Oper) : List (Bool × Nat) → Array Bool → Bool
  | [], listed => (Region.ready .any ops listed).isEmpty
  | (true, i) :: r, listed => (Region.ready .any ops listed).contains i && Region.free .any ops listed i && mixCBI ops r (listed.setIfInBounds i true)
  | (false, i) :: r, listed => Region.ready .any ops listed == [i] && mixCBI ops r (listed.setIfInBounds i true)
def wpFlatCI (F : Fence) (n : Nat) (P : Program) (ops : Array Oper) (C : World → Prop) (Q : Exit → Act → World → Prop) : List (Bool × Nat) → Act → World → Prop
  | [], a, w => Q .normal a w
  | (true, i) :: r, a, w => ∃ o v, ops[i]? = some o ∧ Yc P ops C o v a ∧ wpFlatCI F n P ops C Q r (a.put o.dst v) w
  | (false, i) :: r, a, w => wpOpIn F n P ops Q i (fun a' w' => C w' ∧ wpFlatCI F n P ops C Q r a' w') a w
theorem anyCI_of_flat (hfn : FnW P F) (hnd : noDefer ops = true) (hns : Region.noSelect ops = true) (hQ : ∀ d v c a w, Q (.panic c) (Act.put a d v) w → Q (.panic c) a w) :
    ∀ (l : List (Bool × Nat)) (listed : Array Bool) (a : Act) (w : World), C w → mixCBI ops l listed = true → wpFlatCI F n P ops C Q l a w → wpAnyCI F n P C ops Q l.length listed a w
  | [], listed, a, w, _, hB, h => ⟨by simpa [mixCBI] using hB, h⟩
  | (true, i) :: r, listed, a, w, hC, hB, h => by
    simp only [mixCBI, Bool.and_eq_true, List.contains_iff_mem] at hB
    obtain ⟨⟨hr, hf⟩, hB⟩ := hB
    obtain ⟨o, v, ho, hy, h⟩ := h
    have ih := anyCI_of_flat hfn hnd hns hQ r (listed.setIfInBounds i true) (a.put o.dst v) w hC hB h
    exact anyCI_first hfn hnd ho (Region.noSelect_spec hns) (fun c a w h => hQ _ _ c a w h) _ listed a w (Region.free_spec ho hf) hr hy hC ih
  | (false, i) :: r, listed, a, w, hC, hB, h => by
    simp only [mixCBI, Bool.and_eq_true, beq_iff_eq] at hB
    obtain ⟨hr, hB⟩ := hB
    refine ⟨fun h0 => (by rw [hr] at h0; cases h0), fun j hj => ?_⟩
    have hj' := hj
    rw [hr] at hj'
    have hji : j = i := List.mem_singleton.1 hj'
    subst hji
    exact wpOpIn_mono (fun a' w' h' => ⟨h'.1, anyCI_of_flat hfn hnd hns hQ r _ a' w' h'.1 hB h'.2⟩) h
theorem mixQCI_wp {K next : Act → World → Prop} {w0 : World} {a : Act} {o : Oper} (h : o.wpIn F n P a w0 next (mixQCI C K Q)) : o.wpIn F n P a w0 next Q := by
  unfold Oper.wpIn at *
  refine ⟨h.1, ?_⟩
  have h := h.2
  generalize (o.semAt F.round a.eval).run P w0 = r at *
  cases r with
  | ok x w' =>
    cases x <;> simp only [Oper.uponIn] at h ⊢
    case enter f args => exact ⟨h.1, CallsIn.mono h.2 fun e w'' he => by cases e <;> exact he⟩
    case round l f tmps assign body => exact ⟨h.1, RoundIn.mono h.2 fun e w'' he => by cases e <;> exact he⟩
    all_goals exact h
  | halt x w' => cases x <;> simp only [Oper.uponIn] at h ⊢ <;> exact h
theorem flatCI_of_mix (hfn : FnW P F) : ∀ (legs : List Leg) (a : Act) (w : World), ((flatB legs).all fun x => match ops[x.2]? with | some o => !x.1 || calm o | none => false) = true →
    wpMixCI F n P ops C Q legs a w → wpFlatCI F n P ops C Q (flatB legs) a w
  | [], a, w, _, h => h
  | .r i :: r, a, w, hc, h => by
    simp only [flatB, List.all_cons, Bool.and_eq_true] at hc
    have ih := fun (a : Act) (w : World) (h : wpMixCI F n P ops C Q r a w) => flatCI_of_mix hfn r a w hc.2 h
    unfold wpMixCI at h
    unfold flatB wpFlatCI wpOpIn
    cases ho : ops[i]? with
    | none => rw [ho] at hc; simp at hc
    | some o =>
      have hp : pickO ops [i] = [o] := pickO_cons ho []
      rw [hp] at h
      unfold wpListIn at h
      simp only
      split
      · rename_i hw
        rw [if_pos hw] at h
        exact Oper.wpIn_mono (fun a w h => ⟨h.1, ih _ _ h.2⟩) (mixQCI_wp h)
      · rename_i hw
        rw [if_neg hw] at h
        exact ⟨fun f _ => hfn.fn f, h.2.1, ih _ _ h.2.2⟩
  | .q l :: r, a, w, hc, h => by
    simp only [flatB, List.all_append, Bool.and_eq_true] at hc
    have ih := fun (a : Act) (w : World) (h : wpMixCI F n P ops C Q r a w) => flatCI_of_mix hfn r a w hc.2 h
    unfold wpMixCI at h
    unfold flatB
    have key : ∀ (l : List Nat) (a : Act), ((l.map fun i => (true, i)).all fun x => match ops[x.2]? with | some o => !x.1 || calm o | none => false) = true →
        wpQuiet P ops C (fun a' => wpMixCI F n P ops C Q r a' w) (pickO ops l) a → wpFlatCI F n P ops C Q (l.map (fun i => (true, i)) ++ flatB r) a w := by
      intro l
      induction l with
      | nil => intro a _ h; exact ih a w h
      | cons i l ihl =>
        intro a hc h
        simp only [List.map_cons, List.all_cons, Bool.and_eq_true, Bool.not_true, Bool.false_or] at hc
        obtain ⟨hc1, hc2⟩ := hc
        cases ho : ops[i]? with
        | none => rw [ho] at hc1; cases hc1
        | some o =>
          rw [ho] at hc1
          have hp : pickO ops (i :: l) = o :: pickO ops l := pickO_cons ho l
          rw [hp] at h
          unfold wpQuiet at h
          simp only [List.map_cons, List.cons_append]
          unfold wpFlatCI
          by_cases hw : Region.wanted o (yielded ops a.tmps) = true
          · rw [if_pos hw] at h
            obtain ⟨v, h1, h2⟩ := h
            exact ⟨o, v, ho, .inl ⟨hw, fun w' hb => calm_quiet hc1 (h1 w' hb)⟩, ihl _ hc2 h2⟩
          · rw [if_neg hw] at h
            exact ⟨o, undef, ho, .inr ⟨by simpa using hw, rfl⟩, ihl _ hc2 h⟩
    exact key l a hc.1 h
def mixAllCI (legs : List Leg) (ops : Array Oper) : Bool :=
  noDefer ops && Region.noSelect ops && ((flatB legs).length == ops.size) && ((flatB legs).all fun x => match ops[x.2]? with | some o => !x.1 || calm o | none => false) && mixCBI ops (flatB legs) (Array.replicate ops.size false)
theorem wpIn_region_mixC {id : Nat} {a : Act} {W : World} {l : List Oper} (C : World → Prop) (legs : List Leg) (hfn : FnW P F) (hm : P.follows .mixedOrders = true) (hB : mixAllCI legs l.toArray = true)
    (hQ : ∀ d v c a w, Q (.panic c) (Act.put a d v) w → Q (.panic c) a w) (hC : C W.drew) (h : wpMixCI F n P l.toArray C Q legs a W.drew) : (Code.region id l.toArray true).wpIn F n P Q a W := by
  unfold mixAllCI at hB
  simp only [Bool.and_eq_true, beq_iff_eq] at hB
  obtain ⟨⟨⟨⟨h0, h1⟩, h2⟩, h3⟩, h4⟩ := hB
  refine wpIn_region_any hm (wpAnyIn_of_C (C := C) _ _ _ _ ?_)
  rw [← h2]
  exact anyCI_of_flat hfn h0 h1 hQ _ _ _ _ hC (by rw [h2]; exact h4) (flatCI_of_mix hfn legs a _ h3 h)
theorem wpMixCI_q {l : List Nat} {r : List Leg} {a : Act} {w : World} (h : wpQuiet P ops C (fun a' => wpMixCI F n P ops C Q r a' w) (pickO ops l) a) : wpMixCI F n P ops C Q (.q l :: r) a w := h
theorem wpMixCI_r {i : Nat} {r : List Leg} {a : Act} {w : World} (h : wpListIn F n P ops (mixQCI C (wpMixCI F n P ops C Q r) Q) (pickO ops [i]) a w) : wpMixCI F n P ops C Q (.r i :: r) a w := h
theorem wpMixCI_nil {a : Act} {w : World} (h : Q .normal a w) : wpMixCI F n P ops C Q [] a w := h
end
end Go.Proofs.Gv
