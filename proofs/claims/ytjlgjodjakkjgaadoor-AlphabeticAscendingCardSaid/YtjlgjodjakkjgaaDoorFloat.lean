/- A drawn region inside a fence: calls that hand back one value in every world of a class, and one variable that is made at whatever time; the rest behind them. One walk serves every order. -/
import Derived.Test.YtjlgjodjakkjgaaDoorMixInC
import Derived.Test.YtjlgjodjakkjgaaDoorFront
set_option linter.unusedSimpArgs false
set_option linter.unusedVariables false
namespace Go.Proofs.Gv
open Go Go.RowKit
/-- A world of the class. -/
structure CF (Cf : Option Nat → World → Prop) (γ : Option Nat) where
  x : World
  h : Cf γ x
section
variable {F : Fence} {n : Nat} {P : Program} {ops : Array Oper} {Q : Exit → Act → World → Prop} {Cf : Option Nat → World → Prop} {tl : List Nat} {f fd : Nat} {Fin : Array Bool → Act → Prop}
def pg (g : Nat) : Value := .pointer (some ⟨g, 0, none⟩)
def Cu (Cf : Option Nat → World → Prop) (γ : Option Nat) : World → Prop := fun x => ∃ u : CF Cf γ, x = u.x
theorem Cu.of {γ : Option Nat} {w : World} (h : Cf γ w) : Cu Cf γ w := ⟨⟨w, h⟩, rfl⟩
/-- Every world of the family. -/
def YF (P : Program) (ops : Array Oper) (Cf : Option Nat → World → Prop) (o : Oper) (v : Value) (a : Act) : Prop :=
  (Region.wanted o (yielded ops a.tmps) = true ∧ ∀ γ w, Cf γ w → o.quietAt P a (Cu Cf γ) w v) ∨ (Region.wanted o (yielded ops a.tmps) = false ∧ v = undef)
theorem YF.of_same {o : Oper} {v : Value} {a a' : Act} (hy : YF P ops Cf o v a) (he : execOp a'.eval o = execOp a.eval o) (hw : Region.wanted o (yielded ops a'.tmps) = Region.wanted o (yielded ops a.tmps)) : YF P ops Cf o v a' := by
  unfold YF Oper.quietAt at *
  rw [he, hw]
  exact hy
def rOp (P : Program) (ops : Array Oper) (Cf : Option Nat → World → Prop) (f fd : Nat) (i : Nat) (K : Act → Prop) (a : Act) : Prop :=
  if i = f then ∀ g, K (a.put (some fd) (pg g)) else
  ∃ o v, ops[i]? = some o ∧ YF P ops Cf o v a ∧ K (a.put o.dst v)
theorem rOp_mono {i : Nat} {a : Act} {K K' : Act → Prop} (h : ∀ a, K a → K' a) (hh : rOp P ops Cf f fd i K a) : rOp P ops Cf f fd i K' a := by
  unfold rOp at *
  split
  · rename_i e; rw [if_pos e] at hh; exact fun g => h _ (hh g)
  · rename_i e
    rw [if_neg e] at hh
    obtain ⟨o, v, h1, h2, h3⟩ := hh
    exact ⟨o, v, h1, h2, h _ h3⟩
theorem rOp_put {j : Nat} {oi oj of : Oper} {v : Value} (hof : ops[f]? = some of) (hfd : of.dst = some fd) (hj : ops[j]? = some oj) (hap : oi.apart ops oj = true)
    (hsi : ∀ cs b, oi.op ≠ .select cs b) (hsj : ∀ cs b, oj.op ≠ .select cs b) {K : Act → Prop} {a : Act}
    (hy : YF P ops Cf oi v a) (h : rOp P ops Cf f fd j K (a.put oi.dst v)) :
    rOp P ops Cf f fd j (fun a' => YF P ops Cf oi v a' ∧ K (a'.put oi.dst v)) a := by
  obtain ⟨h1, h2, h3⟩ := Oper.apart_spec hap
  have keep : ∀ (a : Act), YF P ops Cf oi v a → ∀ u, YF P ops Cf oi v (a.put oj.dst u) := fun a hy u =>
    hy.of_same (execOp_put oi hsi a oj.dst u h3) (wanted_put oi a oj.dst u h3)
  unfold rOp at *
  split
  · rename_i e
    rw [if_pos e] at h
    subst e
    obtain rfl := Option.some.inj (hof.symm.trans hj)
    intro g
    rw [← hfd]
    exact ⟨keep a hy _, by rw [← Act.put_comm a v _ h2, hfd]; exact h g⟩
  · rename_i e
    rw [if_neg e] at h
    obtain ⟨o, u, ho, hu, hk⟩ := h
    obtain rfl := Option.some.inj (ho.symm.trans hj)
    exact ⟨o, u, ho, hu.of_same (execOp_put o hsj a oi.dst v h1).symm (wanted_put o a oi.dst v h1).symm, keep a hy u, by rw [← Act.put_comm a v u h2]; exact hk⟩
/-- Whatever order is picked; the world is any of the family. -/
def wpAnyR (P : Program) (ops : Array Oper) (Cf : Option Nat → World → Prop) (tl : List Nat) (f fd : Nat) (Fin : Array Bool → Act → Prop) : Nat → Array Bool → Act → Prop
  | 0, listed, a => (∀ j ∈ Region.ready .any ops listed, tl.contains j = true) ∧ Fin listed a
  | k + 1, listed, a => (∀ j ∈ Region.ready .any ops listed, tl.contains j = false) ∧ Region.ready .any ops listed ≠ [] ∧ ∀ j ∈ Region.ready .any ops listed, rOp P ops Cf f fd j (wpAnyR P ops Cf tl f fd Fin k (listed.setIfInBounds j true)) a
theorem anyR_first {i : Nat} {oi of : Oper} {v : Value} (hif : i ≠ f) (hof : ops[f]? = some of) (hfd : of.dst = some fd) (hi : ops[i]? = some oi) (hsel : ∀ (j : Nat) (o : Oper) cs b, ops[j]? = some o → o.op ≠ .select cs b)
    (hit : tl.contains i = false)
    (hT : ∀ (listed : Array Bool) (j : Nat), Closed ops listed → listed.getD i true = false → j ∈ Region.ready .any ops listed → tl.contains j = false) :
    ∀ (k : Nat) (listed : Array Bool) (a : Act), Closed ops listed →
      (∀ j oj, ops[j]? = some oj → j ≠ i → listed.getD j true = false → (∀ e ∈ oj.after, Region.binds .any e = true → e.on ≠ i) → oi.apart ops oj = true) →
      i ∈ Region.ready .any ops listed → YF P ops Cf oi v a →
      wpAnyR P ops Cf tl f fd Fin k (listed.setIfInBounds i true) (a.put oi.dst v) → wpAnyR P ops Cf tl f fd Fin (k + 1) listed a := by
  have self : ∀ (K : Act → Prop) (a : Act), YF P ops Cf oi v a → K (a.put oi.dst v) → rOp P ops Cf f fd i K a := fun K a hy hK => by
    unfold rOp
    rw [if_neg hif]
    exact ⟨oi, v, hi, hy, hK⟩
  intro k
  induction k with
  | zero =>
    intro listed a hcl _ hr hy H
    have hiun := (mem_ready.1 hr).1
    refine ⟨fun j hj => hT listed j hcl hiun hj, fun e => (by rw [e] at hr; cases hr), fun j hj => ?_⟩
    by_cases hji : j = i
    · subst hji; exact self _ a hy H
    · have h1 := H.1 j (ready_mono hj hji)
      rw [hT listed j hcl hiun hj] at h1
      cases h1
  | succ k ih =>
    intro listed a hcl hfree hr hy H
    have hiun := (mem_ready.1 hr).1
    refine ⟨fun j hj => hT listed j hcl hiun hj, fun e => (by rw [e] at hr; cases hr), fun j hj => ?_⟩
    by_cases hji : j = i
    · subst hji; exact self _ a hy H
    · have h1 := H.2.2 j (ready_mono hj hji)
      obtain ⟨hjun, oj, hoj, hall⟩ := mem_ready.1 hj
      have hnot : ∀ e ∈ oj.after, Region.binds .any e = true → e.on ≠ i := fun e he hb heq => by
        have h1 := hall e he hb
        rw [heq] at h1
        rcases Nat.lt_or_ge i listed.size with h' | h'
        · simp [h'] at hiun h1; rw [hiun] at h1; cases h1
        · simp [Array.getElem?_eq_none h'] at h1
      have h2 := rOp_put hof hfd hoj (hfree j oj hoj hji hjun hnot) (fun cs b => hsel i oi cs b hi) (fun cs b => hsel j oj cs b hoj) hy h1
      have hfree' : ∀ k ok, ops[k]? = some ok → k ≠ i → (listed.setIfInBounds j true).getD k true = false →
          (∀ e ∈ ok.after, Region.binds .any e = true → e.on ≠ i) → oi.apart ops ok = true := fun k ok hk hki hun hno => by
        refine hfree k ok hk hki ?_ hno
        by_cases hjk : j = k
        · subst hjk; exact hjun
        · rw [getD_set_ne true hjk] at hun; exact hun
      refine rOp_mono (fun a' h3 => ih (listed.setIfInBounds j true) a' (hcl.step hj) hfree' (ready_mono hr (Ne.symm hji)) h3.1 ?_) h2
      rw [Array.setIfInBounds_comm _ _ hji]
      exact h3.2
/-- The quiet operations in this order, then the variable. -/
def floatB (ops : Array Oper) (tl : List Nat) (f : Nat) : List Nat → Array Bool → Bool
  | [], listed => Region.ready .any ops listed == [f] && tailB ops tl (listed.setIfInBounds f true) && (Region.ready .any ops (listed.setIfInBounds f true)).all (fun j => tl.contains j)
  | i :: r, listed => (Region.ready .any ops listed).contains i && Region.free .any ops listed i && (i != f) && !tl.contains i && tl.all (fun t => reachB ops 12 t i) && floatB ops tl f r (listed.setIfInBounds i true)
def doneL (l : List Nat) (listed : Array Bool) : Array Bool := l.foldl (fun a i => a.setIfInBounds i true) listed
/-- The values that come up. -/
def QL (P : Program) (ops : Array Oper) (C : World → Prop) : List Oper → Act → List Value → Prop
  | [], _, vs => vs = []
  | o :: r, a, vs => ∃ v us, vs = v :: us ∧ YieldsIn P ops C o v a ∧ QL P ops C r (a.put o.dst v) us
def putL : List Oper → List Value → Act → Act
  | o :: r, v :: vs, a => putL r vs (a.put o.dst v)
  | _, _, a => a
theorem ql_of {C : World → Prop} {Qa : Act → Prop} : ∀ (l : List Oper) (a : Act), wpQuiet P ops C Qa l a → ∃ vs, QL P ops C l a vs ∧ Qa (putL l vs a)
  | [], a, h => ⟨[], rfl, h⟩
  | o :: r, a, h => by
    unfold wpQuiet at h
    by_cases hw : Region.wanted o (yielded ops a.tmps) = true
    · rw [if_pos hw] at h
      obtain ⟨v, h1, h2⟩ := h
      obtain ⟨vs, h3, h4⟩ := ql_of r _ h2
      exact ⟨v :: vs, ⟨v, vs, rfl, .inl ⟨hw, h1⟩, h3⟩, h4⟩
    · rw [if_neg hw] at h
      obtain ⟨vs, h3, h4⟩ := ql_of r _ h
      exact ⟨undef :: vs, ⟨undef, vs, rfl, .inr ⟨by simpa using hw, rfl⟩, h3⟩, h4⟩
theorem ql_uniq {C C' : World → Prop} {w : World} (hC : C w) (hC' : C' w) : ∀ (l : List Oper) (a : Act) (vs vs' : List Value), QL P ops C l a vs → QL P ops C' l a vs' → vs = vs'
  | [], _, _, _, h, h' => h.trans h'.symm
  | o :: r, a, vs, vs', ⟨v, us, e, hy, h⟩, ⟨v', us', e', hy', h'⟩ => by
    have : v = v' := by
      rcases hy with ⟨hw, h1⟩ | ⟨hw, rfl⟩
      · rcases hy' with ⟨_, h2⟩ | ⟨hw', _⟩
        · exact quietAt_det (h1 w hC) (h2 w hC')
        · rw [hw] at hw'; cases hw'
      · rcases hy' with ⟨hw', _⟩ | ⟨_, rfl⟩
        · rw [hw] at hw'; cases hw'
        · rfl
    subst this
    rw [e, e', ql_uniq hC hC' r _ us us' h h']
def QF (P : Program) (ops : Array Oper) (Cf : Option Nat → World → Prop) : List Oper → Act → List Value → Prop
  | [], _, vs => vs = []
  | o :: r, a, vs => ∃ v us, vs = v :: us ∧ YF P ops Cf o v a ∧ QF P ops Cf r (a.put o.dst v) us
theorem qf_of : ∀ (l : List Oper) (a : Act) (vs : List Value), QL P ops (Cu Cf none) l a vs → (∀ γ w, Cf γ w → QL P ops (Cu Cf γ) l a vs) → QF P ops Cf l a vs
  | [], _, _, h, _ => h
  | o :: r, a, vs, ⟨v, us, e, hy, h⟩, hq => by
    subst e
    have hq' : ∀ γ w, Cf γ w → YieldsIn P ops (Cu Cf γ) o v a ∧ QL P ops (Cu Cf γ) r (a.put o.dst v) us := fun γ w hw => by
      obtain ⟨v', us', e, h1, h2⟩ := hq γ w hw
      injection e with e1 e2
      subst e1; subst e2
      exact ⟨h1, h2⟩
    refine ⟨v, us, rfl, ?_, qf_of r _ _ h fun γ w hw => (hq' γ w hw).2⟩
    rcases hy with ⟨hw, _⟩ | ⟨hw, e⟩
    · refine .inl ⟨hw, fun γ w hc => ?_⟩
      rcases (hq' γ w hc).1 with ⟨_, h2⟩ | ⟨hw', _⟩
      · exact h2 w (Cu.of hc)
      · rw [hw] at hw'; cases hw'
    · exact .inr ⟨hw, e⟩
theorem anyR_lex {of : Oper} (hof : ops[f]? = some of) (hfd : of.dst = some fd) (hns : Region.noSelect ops = true) (hft : tl.contains f = false) :
    ∀ (l : List Nat) (listed : Array Bool) (a : Act) (vs : List Value), Closed ops listed → floatB ops tl f l listed = true → (l.all fun i => (ops[i]?).isSome) = true →
      QF P ops Cf (pickO ops l) a vs →
      (∀ g, Fin ((doneL l listed).setIfInBounds f true) ((putL (pickO ops l) vs a).put (some fd) (pg g))) → wpAnyR P ops Cf tl f fd Fin (l.length + 1) listed a
  | [], listed, a, vs, hcl, hB, _, hq, hF => by
    simp only [floatB, Bool.and_eq_true, beq_iff_eq] at hB
    obtain ⟨⟨hr, -⟩, hall⟩ := hB
    refine ⟨fun j hj => ?_, fun e => (by rw [e] at hr; cases hr), fun j hj => ?_⟩
    · rw [hr] at hj; rw [List.mem_singleton.1 hj]; exact hft
    · rw [hr] at hj
      obtain rfl := List.mem_singleton.1 hj
      unfold rOp
      rw [if_pos rfl]
      intro g
      exact ⟨fun j hj => List.all_eq_true.1 hall j hj, hF g⟩
  | i :: r, listed, a, vs, hcl, hB, hs, hq, hF => by
    simp only [floatB, Bool.and_eq_true, List.contains_iff_mem, bne_iff_ne, ne_eq, Bool.not_eq_true'] at hB
    obtain ⟨⟨⟨⟨⟨hr, hf⟩, hne⟩, hit⟩, htl⟩, hB⟩ := hB
    simp only [List.all_cons, Bool.and_eq_true] at hs
    obtain ⟨o, ho⟩ := Option.isSome_iff_exists.1 hs.1
    rw [pickO_cons ho r] at hq hF
    obtain ⟨v, us, rfl, hy, hq⟩ := hq
    refine anyR_first hne hof hfd ho (Region.noSelect_spec hns) hit ?_ _ listed a hcl (Region.free_spec ho hf) hr hy (anyR_lex hof hfd hns hft r _ _ us (hcl.step hr) hB hs.2 hq hF)
    intro listed' j hcl' hiu hj
    by_cases hjt : tl.contains j = true
    · have := List.all_eq_true.1 htl j (by simpa using hjt)
      obtain ⟨-, oj', hoj', hall⟩ := mem_ready.1 hj
      have h1 := reach_listed hcl' 12 j i this fun oj hoj e he hb => by
        obtain rfl := Option.some.inj (hoj.symm.trans hoj')
        exact hall e he hb
      rcases Nat.lt_or_ge i listed'.size with h' | h'
      · simp [h'] at hiu h1; rw [hiu] at h1; cases h1
      · simp [Array.getElem?_eq_none h'] at h1
    · simpa using hjt
theorem anyIn_tail : ∀ (l : List Nat) (listed : Array Bool) (a : Act) (w : World), tailB ops l listed = true → wpListIn F n P ops Q (pickO ops l) a w → wpAnyIn F n P .any ops Q l.length listed a w
  | [], listed, a, w, hB, h => ⟨by simpa [tailB] using hB, h⟩
  | i :: r, listed, a, w, hB, h => by
    simp only [tailB, Bool.and_eq_true, beq_iff_eq] at hB
    obtain ⟨hr, hB⟩ := hB
    refine ⟨fun h0 => (by rw [hr] at h0; cases h0), fun j hj => ?_⟩
    rw [hr] at hj
    have hji : j = i := List.mem_singleton.1 hj
    subst hji
    obtain ⟨-, o, ho, -⟩ := mem_ready.1 (show j ∈ Region.ready .any ops listed by rw [hr]; simp)
    rw [pickO_cons ho r] at h
    have ih := fun (a : Act) (w : World) (h : wpListIn F n P ops Q (pickO ops r) a w) => anyIn_tail r (listed.setIfInBounds j true) a w hB h
    unfold wpOpIn
    unfold wpListIn at h
    simp only [ho]
    split
    · rename_i hw
      rw [if_pos hw] at h
      exact Oper.wpIn_mono ih h
    · rename_i hw
      rw [if_neg hw] at h
      exact ⟨h.1, ih _ _ h.2⟩
/-- What holds of the variable in the frame. -/
def InvF (f fd : Nat) : Option Nat → Array Bool → Act → Prop
  | none, listed, a => listed.getD f true = false ∧ fd < a.tmps.size
  | some g, listed, a => listed.getD f false = true ∧ a.tmps[fd]? = some (pg g) ∧ fd < a.tmps.size
theorem InvF.put {γ : Option Nat} {listed : Array Bool} {a : Act} (h : InvF f fd γ listed a) {i : Nat} (hi : i ≠ f) {d : Option Tmp} (hd : d ≠ some fd) (v : Value) : InvF f fd γ (listed.setIfInBounds i true) (a.put d v) := by
  cases γ with
  | none => exact ⟨by rw [getD_set_ne true hi]; exact h.1, by rw [size_put]; exact h.2⟩
  | some g => exact ⟨by rw [getD_set_ne false hi]; exact h.1, by rw [getElem?_put, if_neg (fun e => hd e.1)]; exact h.2.1, by rw [size_put]; exact h.2.2⟩
theorem anyIn_of_R {of : Oper} {o0 : Obj} (hfn : FnW P F) (hnd : noDefer ops = true) (hof : ops[f]? = some of) (hfd : of.dst = some fd) (hgd : of.guard = none) (hft : tl.contains f = false)
    (hal : ∀ a w, Cf none w → (execOp (Act.eval a) of).run P w = .ok (.value (pg w.heap.size)) (w.alloc o0) ∧ Cf (some w.heap.size) (w.alloc o0))
    (hdst : ∀ (j : Nat) (o : Oper), ops[j]? = some o → j ≠ f → o.dst ≠ some fd) (hfa : ∀ e ∈ of.after, Region.binds .any e = false) (m : Nat) :
    ∀ (k : Nat) (listed : Array Bool) (a : Act) (w : World) (γ : Option Nat), Cf γ w → InvF f fd γ listed a →
      wpAnyR P ops Cf tl f fd (fun listed a => ∀ g w, a.tmps[fd]? = some (pg g) → Cf (some g) w → wpAnyIn F n P .any ops Q m listed a w) k listed a → wpAnyIn F n P .any ops Q (k + m) listed a w := by
  intro k
  induction k with
  | zero =>
    intro listed a w γ hC hI h
    rw [Nat.zero_add]
    cases γ with
    | none =>
      have hr : f ∈ Region.ready .any ops listed := mem_ready.2 ⟨hI.1, of, hof, fun e he hb => by rw [hfa e he] at hb; cases hb⟩
      have := h.1 f hr
      rw [hft] at this
      cases this
    | some g => exact h.2 g w hI.2.1 hC
  | succ k ih =>
    intro listed a w γ hC hI h
    rw [show k + 1 + m = k + m + 1 by omega]
    refine ⟨fun e => absurd e h.2.1, fun i hi => ?_⟩
    have hop := h.2.2 i hi
    have hiun := (mem_ready.1 hi).1
    unfold rOp at hop
    unfold wpOpIn
    by_cases hif : i = f
    · subst hif
      rw [if_pos rfl] at hop
      have hγ : γ = none := by
        cases γ with
        | none => rfl
        | some g =>
          have := hI.1
          rcases Nat.lt_or_ge i listed.size with h' | h'
          · simp [h'] at hiun this; rw [hiun] at this; cases this
          · simp [Array.getElem?_eq_none h'] at this
      subst hγ
      obtain ⟨hrun, hC'⟩ := hal a w hC
      have hwt : Region.wanted of (yielded ops a.tmps) = true := by unfold Region.wanted; rw [hgd]
      simp only [hof, hwt, if_true, Oper.wpIn]
      refine ⟨fun f _ => hfn.fn f, ?_⟩
      rw [Oper.semAt_eq _ _ _ (noDefer_spec hnd hof), hrun]
      show wpAnyIn F n P .any ops Q (k + m) _ (a.put of.dst (pg w.heap.size)) (w.alloc o0)
      rw [hfd]
      have hlt : i < listed.size := by
        rcases Nat.lt_or_ge i listed.size with h' | h'
        · exact h'
        · simp [Array.getElem?_eq_none h'] at hiun
      refine ih _ _ _ (some w.heap.size) hC' ⟨?_, ?_, by rw [size_put]; exact hI.2⟩ (hop _)
      · simp [hlt]
      · rw [getElem?_put, if_pos ⟨rfl, hI.2⟩]
    · rw [if_neg hif] at hop
      obtain ⟨o, v, ho, hy, hK⟩ := hop
      have hd := hdst i o ho hif
      simp only [ho]
      rcases hy with ⟨hw, hy⟩ | ⟨hw, rfl⟩
      · simp only [hw, if_true, Oper.wpIn]
        refine ⟨fun f _ => hfn.fn f, ?_⟩
        rw [Oper.semAt_eq _ _ _ (noDefer_spec hnd ho)]
        have h2 := hy γ w hC
        unfold Oper.quietAt at h2
        generalize (execOp a.eval o).run P w = r at *
        cases r with
        | ok x w' =>
          cases x <;> simp only [Oper.quietUpon] at h2 <;> simp only [Oper.uponIn]
          case value u =>
            obtain ⟨e1, e2⟩ := h2
            rw [e1, e2]
            exact ih _ _ _ γ hC (hI.put hif hd _) hK
          case skip =>
            obtain ⟨e1, e2⟩ := h2
            rw [e1, ← e2]
            exact ih _ _ _ γ hC (hI.put hif hd _) hK
          case enter f args =>
            obtain ⟨e1, hc⟩ := h2
            rw [e1]
            refine ⟨fun e => (by rw [hfn.dp] at e; cases e), (hfn.call hc).mono ?_⟩
            rintro e w'' ⟨rfl, u, rfl⟩
            exact ih _ _ _ γ u.h (hI.put hif hd _) hK
        | halt x w' => simp only [Oper.quietUpon] at h2
      · simp only [hw, Bool.false_eq_true, if_false]
        exact ⟨fun f _ => hfn.fn f, ih _ _ _ γ hC (hI.put hif hd _) hK⟩
def dstB (ops : Array Oper) (f fd : Nat) : Bool := (List.range ops.size).all fun j => (j == f) || match ops[j]? with | some o => o.dst != some fd | none => true
theorem dstB_spec (h : dstB ops f fd = true) (j : Nat) (o : Oper) (ho : ops[j]? = some o) (hj : j ≠ f) : o.dst ≠ some fd := by
  have hl := (Array.getElem?_eq_some_iff.1 ho).1
  have := List.all_eq_true.1 h j (List.mem_range.2 hl)
  rw [ho] at this
  simpa [hj] using this
def floatAll (L tl : List Nat) (f fd : Nat) (ops : Array Oper) : Bool :=
  noDefer ops && Region.noSelect ops && (L.length + 1 + tl.length == ops.size) && (L.all fun i => (ops[i]?).isSome) && dstB ops f fd && !tl.contains f &&
  (match ops[f]? with | some o => o.dst == some fd && o.guard.isNone && o.after.all (fun e => !Region.binds .any e) | none => false) && floatB ops tl f L (Array.replicate ops.size false)
theorem float_tail {L : List Nat} : ∀ {listed : Array Bool}, floatB ops tl f L listed = true → tailB ops tl ((doneL L listed).setIfInBounds f true) = true := by
  induction L with
  | nil =>
    intro listed h
    simp only [floatB, Bool.and_eq_true] at h
    exact h.1.2
  | cons i r ih =>
    intro listed h
    simp only [floatB, Bool.and_eq_true] at h
    exact ih h.2
theorem wpIn_region_float {id : Nat} {a : Act} {W : World} {l : List Oper} {o0 : Obj} (L tl : List Nat) (f fd : Nat) (Cf : Option Nat → World → Prop) (hfn : FnW P F) (hm : P.follows .mixedOrders = true) (hB : floatAll L tl f fd l.toArray = true)
    (hal : ∀ o, l.toArray[f]? = some o → ∀ a w, Cf none w → (execOp (Act.eval a) o).run P w = .ok (.value (pg w.heap.size)) (w.alloc o0) ∧ Cf (some w.heap.size) (w.alloc o0))
    (hmono : ∀ γ w, Cf γ w → Cf none w) (hsz : fd < a.tmps.size) (hC : Cf none W.drew)
    (h : ∀ γ, Nonempty (CF Cf γ) → wpQuiet P l.toArray (fun x => ∃ u : CF Cf γ, x = u.x) (fun a' => γ = none → ∀ g w, Cf (some g) w → wpListIn F n P l.toArray Q (pickO l.toArray tl) (a'.put (some fd) (pg g)) w) (pickO l.toArray L) a) :
    (Code.region id l.toArray true).wpIn F n P Q a W := by
  unfold floatAll at hB
  simp only [Bool.and_eq_true, beq_iff_eq, Bool.not_eq_true'] at hB
  obtain ⟨⟨⟨⟨⟨⟨⟨h0, h1⟩, h2⟩, h3⟩, h4⟩, h5⟩, h6⟩, h7⟩ := hB
  cases hof : l.toArray[f]? with
  | none => rw [hof] at h6; cases h6
  | some of =>
    rw [hof] at h6
    simp only [Bool.and_eq_true, beq_iff_eq, Option.isNone_iff_eq_none] at h6
    obtain ⟨⟨hfd, hgd⟩, haf⟩ := h6
    have hafs : ∀ e ∈ of.after, Region.binds .any e = false := fun e he => by
      have := Array.all_eq_true'.1 haf e he
      simpa using this
    obtain ⟨vs, hq0, hF⟩ := ql_of _ _ (h none ⟨⟨_, hC⟩⟩)
    have hqf := qf_of (Cf := Cf) _ _ _ hq0 fun γ w hw => by
      obtain ⟨vs', hq', -⟩ := ql_of _ _ (h γ ⟨⟨w, hw⟩⟩)
      obtain rfl := ql_uniq (Cu.of (hmono γ w hw)) (Cu.of hw) _ _ _ _ hq0 hq'
      exact hq'
    have hcl : Closed l.toArray (Array.replicate l.toArray.size false) := by
      intro j oj hj hl
      rcases Nat.lt_or_ge j l.toArray.size with h' | h'
      · simp [show j < l.length by simpa using h'] at hl
      · simp [show ¬ j < l.length by simpa using h'] at hl
    have hlf : f < l.toArray.size := (Array.getElem?_eq_some_iff.1 hof).1
    refine wpIn_region_any hm ?_
    rw [← h2]
    refine anyIn_of_R hfn h0 hof hfd hgd h5 (hal of hof) (dstB_spec h4) hafs tl.length (L.length + 1) _ a _ none hC ⟨?_, hsz⟩ ?_
    · rw [h2]; simp [show f < l.length by simpa using hlf]
    · rw [h2]
      refine anyR_lex hof hfd h1 h5 L _ a vs hcl h7 h3 hqf fun g g' w hs hc => ?_
      have hbig : fd < (putL (pickO l.toArray L) vs a).tmps.size := by
        have : ∀ (l : List Oper) (vs : List Value) (a : Act), (putL l vs a).tmps.size = a.tmps.size := fun l => by
          induction l with
          | nil => intro vs a; cases vs <;> rfl
          | cons o r ih => intro vs a; cases vs with
            | nil => rfl
            | cons v vs => exact (ih _ _).trans (size_put _ _ _)
        rw [this]; exact hsz
      rw [getElem?_put, if_pos ⟨rfl, hbig⟩] at hs
      have hg : g = g' := by unfold pg at hs; simpa using hs
      subst hg
      exact anyIn_tail tl _ _ w (float_tail h7) (hF rfl g w hc)
end
end Go.Proofs.Gv
