/- The law of XMixInC with an end: what stands at the end, in one order, behind all loads, keeps no class. -/
import Derived.Test.YtglgiofjgfbfgaaMixInCP
import Derived.Test.YtglgiofjgfbfgaaHrowP
import Derived.Maps.OwnIn
import Derived.RangeFuncBox
set_option linter.unusedSimpArgs false
set_option linter.unusedVariables false
namespace Go.Proofs.Gv
open Go Go.RowKit
section
variable {F : Fence} {n : Nat} {P : Program} {ops : Array Oper} {Q : Exit → Act → World → Prop} {C : World → Prop} {T : Nat → Bool}
/-- Whatever order, each operation keeping the class. -/
def wpAnyDI (F : Fence) (n : Nat) (P : Program) (C : World → Prop) (T : Nat → Bool) (ops : Array Oper) (Q : Exit → Act → World → Prop) : Nat → Array Bool → Act → World → Prop
  | 0, listed, a, w => Region.ready .any ops listed = [] ∧ Q .normal a w
  | fuel + 1, listed, a, w =>
    (Region.ready .any ops listed = [] → Q .normal a w) ∧
    ∀ i ∈ Region.ready .any ops listed, wpOpIn F n P ops Q i (fun a' w' => (T i = false → C w') ∧ wpAnyDI F n P C T ops Q fuel (listed.setIfInBounds i true) a' w') a w
theorem wpAnyIn_of_D : ∀ (fuel : Nat) (listed : Array Bool) (a : Act) (w : World), wpAnyDI F n P C T ops Q fuel listed a w → wpAnyIn F n P .any ops Q fuel listed a w
  | 0, _, _, _, h => h
  | fuel + 1, _, _, _, h => ⟨h.1, fun i hi => wpOpIn_mono (fun _ _ h' => wpAnyIn_of_D fuel _ _ _ h'.2) (h.2 i hi)⟩
theorem anyDI_first (hfn : FnW P F) (hnd : noDefer ops = true) {i : Nat} {oi : Oper} {v : Value} (hi : ops[i]? = some oi) (hsel : ∀ (j : Nat) (o : Oper) cs b, ops[j]? = some o → o.op ≠ .select cs b)
    (hQ : ∀ c a w, Q (.panic c) (a.put oi.dst v) w → Q (.panic c) a w)
    (hT : ∀ (listed : Array Bool) (j : Nat), Closed ops listed → listed.getD i true = false → j ∈ Region.ready .any ops listed → j ≠ i → T j = false) :
    ∀ (fuel : Nat) (listed : Array Bool) (a : Act) (w : World), Closed ops listed →
      (∀ j oj, ops[j]? = some oj → j ≠ i → listed.getD j true = false → (∀ e ∈ oj.after, Region.binds .any e = true → e.on ≠ i) → oi.apart ops oj = true) →
      i ∈ Region.ready .any ops listed → Yc P ops C oi v a → C w →
      wpAnyDI F n P C T ops Q fuel (listed.setIfInBounds i true) (a.put oi.dst v) w → wpAnyDI F n P C T ops Q (fuel + 1) listed a w := by
  intro fuel
  induction fuel with
  | zero =>
    intro listed a w _ _ hr hy hw H
    refine ⟨fun h => (by rw [h] at hr; cases hr), fun j hj => ?_⟩
    by_cases hji : j = i
    · subst hji; exact hy.wpOpIn hfn hnd hi hw ⟨fun _ => hw, H⟩
    · have := ready_mono hj hji
      rw [H.1] at this
      cases this
  | succ fuel ih =>
    intro listed a w hcl hfree hr hy hw H
    refine ⟨fun h => (by rw [h] at hr; cases hr), fun j hj => ?_⟩
    by_cases hji : j = i
    · subst hji; exact hy.wpOpIn hfn hnd hi hw ⟨fun _ => hw, H⟩
    · have h1 := H.2 j (ready_mono hj hji)
      obtain ⟨hjun, oj, hoj, hall⟩ := mem_ready.1 hj
      have hiun := (mem_ready.1 hr).1
      have hnot : ∀ e ∈ oj.after, Region.binds .any e = true → e.on ≠ i := fun e he hb heq => by
        have h1 := hall e he hb
        rw [heq] at h1
        rcases Nat.lt_or_ge i listed.size with h' | h'
        · simp [h'] at hiun h1; rw [hiun] at h1; cases h1
        · simp [Array.getElem?_eq_none h'] at h1
      have hTj := hT listed j hcl hiun hj hji
      have h2 := wpOpIn_putc hfn hnd hoj (hfree j oj hoj hji hjun hnot) (fun cs b => hsel i oi cs b hi) (fun cs b => hsel j oj cs b hoj) hQ hy h1
      have hfree' : ∀ k ok, ops[k]? = some ok → k ≠ i → (listed.setIfInBounds j true).getD k true = false →
          (∀ e ∈ ok.after, Region.binds .any e = true → e.on ≠ i) → oi.apart ops ok = true := fun k ok hk hki hun hno => by
        refine hfree k ok hk hki ?_ hno
        by_cases hjk : j = k
        · subst hjk; exact hjun
        · rw [getD_set_ne true hjk] at hun; exact hun
      refine wpOpIn_mono (fun a' w' h3 => ⟨h3.2.1, ?_⟩) h2
      refine ih (listed.setIfInBounds j true) a' w' (hcl.step hj) hfree' (ready_mono hr (Ne.symm hji)) h3.1 (h3.2.1 hTj) ?_
      rw [Array.setIfInBounds_comm _ _ hji]
      exact h3.2.2
def mixQDI (t : Bool) (C : World → Prop) (K : Act → World → Prop) (Q : Exit → Act → World → Prop) : Exit → Act → World → Prop
  | .normal, a, w' => (t = false → C w') ∧ K a w'
  | e, a, w' => Q e a w'
def wpMixDI (F : Fence) (n : Nat) (P : Program) (ops : Array Oper) (C : World → Prop) (T : Nat → Bool) (Q : Exit → Act → World → Prop) : List Leg → Act → World → Prop
  | [], a, w => Q .normal a w
  | .q l :: r, a, w => wpQuiet P ops C (fun a' => wpMixDI F n P ops C T Q r a' w) (pickO ops l) a
  | .r i :: r, a, w => wpListIn F n P ops (mixQDI (T i) C (wpMixDI F n P ops C T Q r) Q) (pickO ops [i]) a w
theorem mixQDI_ok {K : Act → World → Prop} {w' : World} {a : Act} {t : Bool} (hb : C w') (h : K a w') : mixQDI t C K Q .normal a w' := ⟨fun _ => hb, h⟩
theorem mixQDI_end {K : Act → World → Prop} {w' : World} {a : Act} {t : Bool} (ht : t = true) (h : K a w') : mixQDI t C K Q .normal a w' := ⟨fun e => (by rw [ht] at e; cases e), h⟩
def mixDBI (tl : List Nat) (ops : Array Oper) : List (Bool × Nat) → Array Bool → Bool
  | [], listed => (Region.ready .any ops listed).isEmpty
  | (true, i) :: r, listed => (Region.ready .any ops listed).contains i && Region.free .any ops listed i && (tl.all fun t => reachB ops 12 t i) && mixDBI tl ops r (listed.setIfInBounds i true)
  | (false, i) :: r, listed => Region.ready .any ops listed == [i] && (!tl.contains i || r.all fun t => !t.1) && mixDBI tl ops r (listed.setIfInBounds i true)
def wpFlatDI (F : Fence) (n : Nat) (P : Program) (ops : Array Oper) (C : World → Prop) (T : Nat → Bool) (Q : Exit → Act → World → Prop) : List (Bool × Nat) → Act → World → Prop
  | [], a, w => Q .normal a w
  | (true, i) :: r, a, w => ∃ o v, ops[i]? = some o ∧ Yc P ops C o v a ∧ wpFlatDI F n P ops C T Q r (a.put o.dst v) w
  | (false, i) :: r, a, w => wpOpIn F n P ops Q i (fun a' w' => (T i = false → C w') ∧ wpFlatDI F n P ops C T Q r a' w') a w
theorem anyDI_of_flat {tl : List Nat} (hfn : FnW P F) (hnd : noDefer ops = true) (hns : Region.noSelect ops = true) (hQ : ∀ d v c a w, Q (.panic c) (Act.put a d v) w → Q (.panic c) a w) :
    ∀ (l : List (Bool × Nat)) (listed : Array Bool) (a : Act) (w : World), Closed ops listed → (C w ∨ (l.all fun t => !t.1) = true) → mixDBI tl ops l listed = true → wpFlatDI F n P ops C (tl.contains ·) Q l a w → wpAnyDI F n P C (tl.contains ·) ops Q l.length listed a w
  | [], listed, a, w, _, _, hB, h => ⟨by simpa [mixDBI] using hB, h⟩
  | (true, i) :: r, listed, a, w, hcl, hC, hB, h => by
    simp only [mixDBI, Bool.and_eq_true, List.contains_iff_mem] at hB
    obtain ⟨⟨⟨hr, hf⟩, htl⟩, hB⟩ := hB
    have hC : C w := by
      rcases hC with h | h
      · exact h
      · simp at h
    obtain ⟨o, v, ho, hy, h⟩ := h
    have ih := anyDI_of_flat hfn hnd hns hQ r (listed.setIfInBounds i true) (a.put o.dst v) w (hcl.step hr) (.inl hC) hB h
    refine anyDI_first hfn hnd ho (Region.noSelect_spec hns) (fun c a w h => hQ _ _ c a w h) ?_ _ listed a w hcl (Region.free_spec ho hf) hr hy hC ih
    intro listed' j hcl' hiu hj hne
    by_cases hTj : tl.contains j = true
    · exfalso
      obtain ⟨-, oj', hoj', hall⟩ := mem_ready.1 hj
      have hreach := List.all_eq_true.1 htl j (by simpa using hTj)
      have h1 := reach_listed hcl' 12 j i hreach fun oj hoj e he hb => by
        obtain rfl := Option.some.inj (hoj.symm.trans hoj')
        exact hall e he hb
      rcases Nat.lt_or_ge i listed'.size with h' | h'
      · simp [h'] at hiu h1; rw [hiu] at h1; cases h1
      · simp [Array.getElem?_eq_none h'] at h1
    · simpa using hTj
  | (false, i) :: r, listed, a, w, hcl, hC, hB, h => by
    simp only [mixDBI, Bool.and_eq_true, beq_iff_eq] at hB
    obtain ⟨⟨hr, ht⟩, hB⟩ := hB
    refine ⟨fun h0 => (by rw [hr] at h0; cases h0), fun j hj => ?_⟩
    have hj' := hj
    rw [hr] at hj'
    have hji : j = i := List.mem_singleton.1 hj'
    subst hji
    refine wpOpIn_mono (fun a' w' h' => ⟨h'.1, anyDI_of_flat hfn hnd hns hQ r _ a' w' (hcl.step hj) ?_ hB h'.2⟩) h
    rw [Bool.or_eq_true] at ht
    rcases ht with ht | ht
    · exact .inl (h'.1 (by simpa using ht))
    · exact .inr ht
theorem mixQDI_wp {t : Bool} {K next : Act → World → Prop} {w0 : World} {a : Act} {o : Oper} (h : o.wpIn F n P a w0 next (mixQDI t C K Q)) : o.wpIn F n P a w0 next Q := by
  unfold Oper.wpIn at *
  refine ⟨h.1, ?_⟩
  have h := h.2
  generalize (o.semAt F.round a.eval).run P w0 = r at *
  cases r with
  | ok x w' =>
    cases x <;> simp only [Oper.uponIn] at h ⊢
    case enter f args => exact ⟨h.1, CallsIn.mono h.2 fun e w'' he => by cases e <;> exact he⟩
    case round l f tmps assign body => exact ⟨h.1, RoundIn.mono h.2 fun e w'' he => by cases e <;> exact he⟩
    all_goals exact h
  | halt x w' => cases x <;> simp only [Oper.uponIn] at h ⊢ <;> exact h
theorem flatDI_of_mix (hfn : FnW P F) : ∀ (legs : List Leg) (a : Act) (w : World), ((flatB legs).all fun x => match ops[x.2]? with | some o => !x.1 || calm o | none => false) = true →
    wpMixDI F n P ops C T Q legs a w → wpFlatDI F n P ops C T Q (flatB legs) a w
  | [], a, w, _, h => h
  | .r i :: r, a, w, hc, h => by
    simp only [flatB, List.all_cons, Bool.and_eq_true] at hc
    have ih := fun (a : Act) (w : World) (h : wpMixDI F n P ops C T Q r a w) => flatDI_of_mix hfn r a w hc.2 h
    unfold wpMixDI at h
    unfold flatB wpFlatDI wpOpIn
    cases ho : ops[i]? with
    | none => rw [ho] at hc; simp at hc
    | some o =>
      have hp : pickO ops [i] = [o] := pickO_cons ho []
      rw [hp] at h
      unfold wpListIn at h
      simp only
      split
      · rename_i hw
        rw [if_pos hw] at h
        exact Oper.wpIn_mono (fun a w h => ⟨h.1, ih _ _ h.2⟩) (mixQDI_wp h)
      · rename_i hw
        rw [if_neg hw] at h
        exact ⟨fun f _ => hfn.fn f, h.2.1, ih _ _ h.2.2⟩
  | .q l :: r, a, w, hc, h => by
    simp only [flatB, List.all_append, Bool.and_eq_true] at hc
    have ih := fun (a : Act) (w : World) (h : wpMixDI F n P ops C T Q r a w) => flatDI_of_mix hfn r a w hc.2 h
    unfold wpMixDI at h
    unfold flatB
    have key : ∀ (l : List Nat) (a : Act), ((l.map fun i => (true, i)).all fun x => match ops[x.2]? with | some o => !x.1 || calm o | none => false) = true →
        wpQuiet P ops C (fun a' => wpMixDI F n P ops C T Q r a' w) (pickO ops l) a → wpFlatDI F n P ops C T Q (l.map (fun i => (true, i)) ++ flatB r) a w := by
      intro l
      induction l with
      | nil => intro a _ h; exact ih a w h
      | cons i l ihl =>
        intro a hc h
        simp only [List.map_cons, List.all_cons, Bool.and_eq_true, Bool.not_true, Bool.false_or] at hc
        obtain ⟨hc1, hc2⟩ := hc
        cases ho : ops[i]? with
        | none => rw [ho] at hc1; cases hc1
        | some o =>
          rw [ho] at hc1
          have hp : pickO ops (i :: l) = o :: pickO ops l := pickO_cons ho l
          rw [hp] at h
          unfold wpQuiet at h
          simp only [List.map_cons, List.cons_append]
          unfold wpFlatDI
          by_cases hw : Region.wanted o (yielded ops a.tmps) = true
          · rw [if_pos hw] at h
            obtain ⟨v, h1, h2⟩ := h
            exact ⟨o, v, ho, .inl ⟨hw, fun w' hb => calm_quiet hc1 (h1 w' hb)⟩, ihl _ hc2 h2⟩
          · rw [if_neg hw] at h
            exact ⟨o, undef, ho, .inr ⟨by simpa using hw, rfl⟩, ihl _ hc2 h⟩
    exact key l a hc.1 h
def mixAllDI (tl : List Nat) (legs : List Leg) (ops : Array Oper) : Bool :=
  noDefer ops && Region.noSelect ops && ((flatB legs).length == ops.size) && ((flatB legs).all fun x => match ops[x.2]? with | some o => !x.1 || calm o | none => false) && mixDBI tl ops (flatB legs) (Array.replicate ops.size false)
theorem wpIn_region_mixD {id : Nat} {a : Act} {W : World} {l : List Oper} (C : World → Prop) (legs : List Leg) (tl : List Nat) (hfn : FnW P F) (hm : P.follows .mixedOrders = true) (hB : mixAllDI tl legs l.toArray = true)
    (hQ : ∀ d v c a w, Q (.panic c) (Act.put a d v) w → Q (.panic c) a w) (hC : C W.drew) (h : wpMixDI F n P l.toArray C (tl.contains ·) Q legs a W.drew) : (Code.region id l.toArray true).wpIn F n P Q a W := by
  unfold mixAllDI at hB
  simp only [Bool.and_eq_true, beq_iff_eq] at hB
  obtain ⟨⟨⟨⟨h0, h1⟩, h2⟩, h3⟩, h4⟩ := hB
  refine wpIn_region_any hm (wpAnyIn_of_D (C := C) (T := (tl.contains ·)) _ _ _ _ ?_)
  rw [← h2]
  refine anyDI_of_flat hfn h0 h1 hQ _ _ _ _ ?_ (.inl hC) (by rw [h2]; exact h4) (flatDI_of_mix hfn legs a _ h3 h)
  intro j oj hj hl
  rw [h2] at hl
  rcases Nat.lt_or_ge j l.toArray.size with h' | h'
  · simp [show j < l.length by simpa using h'] at hl
  · simp [show ¬ j < l.length by simpa using h'] at hl
/-- An end that asks nothing of a panic that cannot be. -/
def noQD (Q : Exit → Act → World → Prop) : Exit → Act → World → Prop
  | .normal, a, w => Q .normal a w
  | _, _, _ => False
theorem noQD_ok {Q : Exit → Act → World → Prop} {a : Act} {w : World} (h : Q .normal a w) : noQD Q .normal a w := h
theorem noQD_of {Q : Exit → Act → World → Prop} (e : Exit) (a : Act) (w : World) (h : noQD Q e a w) : Q e a w := by cases e <;> first | exact h | exact h.elim
theorem wpMixDI_q {l : List Nat} {r : List Leg} {a : Act} {w : World} (h : wpQuiet P ops C (fun a' => wpMixDI F n P ops C T Q r a' w) (pickO ops l) a) : wpMixDI F n P ops C T Q (.q l :: r) a w := h
theorem wpMixDI_r {i : Nat} {r : List Leg} {a : Act} {w : World} (h : wpListIn F n P ops (mixQDI (T i) C (wpMixDI F n P ops C T Q r) Q) (pickO ops [i]) a w) : wpMixDI F n P ops C T Q (.r i :: r) a w := h
theorem wpMixDI_nil {a : Act} {w : World} (h : Q .normal a w) : wpMixDI F n P ops C T Q [] a w := h
end
end Go.Proofs.Gv

namespace Go.Proofs.Gv
open Go Go.RowKit
theorem alloc_oldQ (w : World) (o : Obj) {r : Nat} (h : r < w.heap.size) : (w.alloc o).heap[r]? = w.heap[r]? := by
  show (w.heap.push o)[r]? = _
  rw [Array.getElem?_push_lt h, Array.getElem?_eq_getElem h]

theorem ownsRow_form {W : World} {base : Nat} {e : TypeId} {size n : Nat} {v : Value} {xs : List Value} (h : W.ownsRow base e size v n xs) {k : Nat} (hk : v.ownBlock = some k) : ∃ c, v = .slice (some ⟨k, 0, none⟩) n c ∧ base ≤ k ∧ ∃ o, W.heap[k]? = some o ∧ o.isCells = true := by
  rcases h.2 with ⟨rfl, _⟩ | ⟨g, cap, cur, rfl, hb, hg, _⟩
  · cases hk
  · obtain rfl : g = k := by simpa [Value.ownBlock] using hk
    exact ⟨cap, rfl, hb, _, hg, rfl⟩
theorem ownsRow_keep {W W' : World} {base : Nat} {e : TypeId} {size n : Nat} {v : Value} {xs : List Value} (h : W.ownsRow base e size v n xs) (hk : ∀ k o, base ≤ k → W.heap[k]? = some o → o.isCells = true → W'.heap[k]? = some o) : W'.ownsRow base e size v n xs := by
  refine ⟨h.1, ?_⟩
  rcases h.2 with h0 | ⟨g, cap, cur, rfl, hb, hg, h3⟩
  · exact .inl h0
  · exact .inr ⟨g, cap, cur, rfl, hb, hk g _ hb hg rfl, h3⟩
structure AppD (base L : Nat) (e : TypeId) (size : Nat) (n : Nat) (ys : List Value) (v' : Value) (W W' : World) : Prop where
  kp : KpL L W W'
  box : BC W' L [v']
  row : W'.ownsRow base e size v' n ys
  os : W'.os = W.os
  tape : W'.tape = W.tape
  output : W'.output = W.output
  same : ∀ k, k < base → k ≠ L → W'.heap[k]? = W.heap[k]?
  keeps : ∀ m, KeepsFrom m W W'
theorem app_step {W w1 : World} {base L : Nat} {e : TypeId} {size n : Nat} {v v' : Value} {xs ys : List Value} {o : Obj} (hL : BC W L [v]) (hrow : W.ownsRow base e size v n xs) (hb : base ≤ W.heap.size) (hLb : L < base)
    (hown : w1.ownsRow base e size v' (n + 1) ys) (hgrow : (W.alloc o).grownBy w1 v.ownBlock) (hat : v'.ownBlock = v.ownBlock ∨ v'.ownBlock = some (W.alloc o).heap.size) :
    AppD base L e size (n + 1) ys v' W (w1.setCell ⟨L, 0, none⟩ v') := by
  obtain ⟨g1, g2, g3, g4, g5⟩ := hgrow
  have hsz : W.heap.size + 1 ≤ w1.heap.size := by simpa using g4
  have hLrow : v.ownBlock ≠ some L := fun h => by obtain ⟨_, _, h2, _⟩ := ownsRow_form hrow h; omega
  have old : ∀ k, k < W.heap.size → v.ownBlock ≠ some k → w1.heap[k]? = W.heap[k]? := fun k hk hr =>
    (g5 k (by simp; omega) (fun h => hr h.symm)).trans (alloc_oldQ W o hk)
  have hL1 : BC w1 L [v] := hL.heap (old L hL.lt hLrow) (by omega)
  have set : ∀ k, k ≠ L → (w1.setCell ⟨L, 0, none⟩ v').heap[k]? = w1.heap[k]? := fun k hk => Below.heap_setCell _ _ _ _ hk
  have hbox : BC (w1.setCell ⟨L, 0, none⟩ v') L [v'] := hL1.set 0 v' (by simp)
  have hrow' : (w1.setCell ⟨L, 0, none⟩ v').ownsRow base e size v' (n + 1) ys := ownsRow_keep hown fun k u hk hu _ => (set k (by omega)).trans hu
  refine ⟨⟨by simp; omega, fun k u hu hc hkL hr => ?_, fun k m c hk => ?_⟩, hbox, hrow', g1, g2, g3, fun k hk hkL => ?_, fun m => ?_⟩
  · have hlt := (Array.getElem?_eq_some_iff.1 hu).1
    rw [set k hkL, old k hlt (fun h => ?_)]
    · exact hu
    · obtain ⟨c, rfl, _⟩ := ownsRow_form hrow h
      exact hr _ _ (hL.cell 0 _ rfl)
  · have e1 : v' = .slice (some ⟨k, 0, none⟩) m c := by
      have h0 := hbox.cell 0 v' rfl
      rw [hk] at h0
      exact (Option.some.inj h0).symm
    have hv' : v'.ownBlock = some k := by rw [e1]; rfl
    obtain ⟨_, _, _, u, hu, _⟩ := ownsRow_form hown hv'
    have hklt := (Array.getElem?_eq_some_iff.1 hu).1
    rcases hat with h | h
    · rw [hv'] at h
      obtain ⟨c', e2, _⟩ := ownsRow_form hrow h.symm
      exact .inl ⟨_, c', by rw [hL.cell 0 v rfl, e2]⟩
    · rw [hv'] at h
      have : k = W.heap.size + 1 := by simpa using h
      exact .inr ⟨by omega, by simpa using hklt⟩
  · rw [set k hkL, old k (by omega) (fun h => by obtain ⟨_, _, h2, _⟩ := ownsRow_form hrow h; omega)]
  · refine ⟨by simp; omega, fun k u hk hu hc => ?_⟩
    have hlt := (Array.getElem?_eq_some_iff.1 hu).1
    have hkL : k ≠ L := fun h => by
      subst h
      obtain ⟨u2, hu2, hc2⟩ := hL.obj
      rw [hu] at hu2; cases hu2; rw [hc] at hc2; cases hc2
    rw [set k hkL, old k hlt (fun h => ?_)]
    · exact hu
    · obtain ⟨_, _, _, u2, hu2, hc2⟩ := ownsRow_form hrow h
      rw [hu] at hu2; cases hu2; rw [hc] at hc2; cases hc2
theorem app_pre {W w1 : World} {base L : Nat} {e : TypeId} {size n : Nat} {v : Value} {xs : List Value} {o : Obj} (hL : BC W L [v]) (hrow : W.ownsRow base e size v n xs) (hLb : L < base) (hgrow : (W.alloc o).grownBy w1 v.ownBlock) : BC w1 L [v] := by
  obtain ⟨g1, g2, g3, g4, g5⟩ := hgrow
  have hsz : W.heap.size + 1 ≤ w1.heap.size := by simpa using g4
  have hLrow : v.ownBlock ≠ some L := fun h => by obtain ⟨_, _, h2, _⟩ := ownsRow_form hrow h; omega
  exact hL.heap ((g5 L (by have := hL.lt; simp; omega) (fun h => hLrow h.symm)).trans (alloc_oldQ W o hL.lt)) (by omega)
theorem AppD.below {base L n m : Nat} {e : TypeId} {size : Nat} {ys : List Value} {v' : Value} {w W W' : World} (h : AppD base L e size n ys v' W W') (hw : Below m w W) (hm : m ≤ L) (hmb : m ≤ base) : Below m w W' :=
  ⟨h.os.trans hw.os, h.tape.trans hw.tape, h.output.trans hw.output, Nat.le_trans hw.size h.kp.size, fun k hk => (h.same k (by omega) (by omega)).trans (hw.block k hk)⟩
end Go.Proofs.Gv
