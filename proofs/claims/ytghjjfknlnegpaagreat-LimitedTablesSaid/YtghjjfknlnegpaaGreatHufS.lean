/- Merges that join free nodes, plainly: whatever they are, their depths cost their sums. -/
import Derived.Test.YtghjjfknlnegpaaGreatHufM
set_option linter.unusedSimpArgs false
set_option linter.unusedVariables false
namespace Go.Proofs.Gv

/-- Free nodes taken one behind the other. -/
inductive Tk : List (Nat × Nat) → List (Nat × Bool) → List (Nat × Bool) → Prop
  | nil (l : List (Nat × Bool)) : Tk [] l l
  | cons {k w : Nat} {ns : List (Nat × Nat)} {l l' : List (Nat × Bool)} : l[k]? = some (w, true) → Tk ns (l.set k (w, false)) l' → Tk ((k, w) :: ns) l l'
structure Took (l l' : List (Nat × Bool)) (ns : List (Nat × Nat)) : Prop where
  size : l'.length = l.length
  cf : cf l = cf l' + ns.length
  at_ : ∀ x ∈ ns, l[x.1]? = some (x.2, true) ∧ l'[x.1]? = some (x.2, false)
  old : ∀ i w : Nat, l'[i]? = some (w, true) → l[i]? = some (w, true) ∧ ∀ x ∈ ns, x.1 ≠ i
  wt : ∀ i : Nat, (l'[i]?).map (·.1) = (l[i]?).map (·.1)
  sum : ∀ g, sf g l = (ns.map fun x => g x.1 x.2).sum + sf g l'
  perm : (fw l).Perm (ns.map (·.2) ++ fw l')
  stay : ∀ i w : Nat, l[i]? = some (w, true) → i ∉ ns.map (·.1) → l'[i]? = some (w, true)
theorem Tk.took {ns : List (Nat × Nat)} {l l' : List (Nat × Bool)} (h : Tk ns l l') : Took l l' ns := by
  induction h with
  | nil l => exact ⟨rfl, by simp, by simp, by simp, fun _ => rfl, by simp, by simp, fun i w hi _ => hi⟩
  | @cons k w ns l l' h1 h2 ih =>
    obtain ⟨hk, e⟩ := List.getElem?_eq_some_iff.1 h1
    have hk2 : (l.set k (w, false))[k]? = some (w, false) := by rw [List.getElem?_set_self hk]
    refine ⟨by rw [ih.size]; simp, by rw [cf_set h1, ih.cf]; exact Nat.add_assoc _ _ _, ?_, ?_, ?_, ?_, ?_, ?_⟩
    · intro x hx
      rcases List.mem_cons.1 hx with rfl | hx
      · refine ⟨h1, ?_⟩
        have h2 := ih.wt k
        rw [hk2] at h2
        cases h3 : l'[k]? with
        | none => rw [h3] at h2; cases h2
        | some y =>
          rw [h3] at h2
          obtain ⟨v, f⟩ := y
          simp at h2
          cases f with
          | false => rw [h2]
          | true =>
            have := (ih.old k v h3).1
            rw [hk2] at this
            simp at this
      · obtain ⟨a1, a2⟩ := ih.at_ x hx
        refine ⟨?_, a2⟩
        by_cases hxk : k = x.1
        · rw [← hxk, hk2] at a1; simp at a1
        · rwa [List.getElem?_set_ne hxk] at a1
    · intro i v hi
      obtain ⟨a1, a2⟩ := ih.old i v hi
      have hki : k ≠ i := fun e => by rw [← e, hk2] at a1; simp at a1
      rw [List.getElem?_set_ne hki] at a1
      refine ⟨a1, fun x hx => ?_⟩
      rcases List.mem_cons.1 hx with rfl | hx
      · exact hki
      · exact a2 x hx
    · intro i
      rw [ih.wt i]
      by_cases hki : k = i
      · subst hki; rw [hk2, h1]; rfl
      · rw [List.getElem?_set_ne hki]
    · intro g
      rw [sf_set g h1, ih.sum g, List.map_cons, List.sum_cons, Nat.add_assoc]
    · refine (fw_set h1).trans ?_
      rw [List.map_cons, List.cons_append]
      exact ih.perm.cons w
    · intro i v hi hn
      rw [List.map_cons, List.mem_cons, not_or] at hn
      exact ih.stay i v (by rw [List.getElem?_set_ne (fun e => hn.1 e.symm)]; exact hi) hn.2
def sumW (ns : List (Nat × Nat)) : Nat := (ns.map (·.2)).sum
/-- Merges of q free nodes each, till one is free. -/
inductive Ms (q : Nat) : List (Nat × Bool) → List (List (Nat × Nat)) → Prop
  | nil {l : List (Nat × Bool)} : cf l = 1 → Ms q l []
  | cons {l l' : List (Nat × Bool)} {ns : List (Nat × Nat)} {ms : List (List (Nat × Nat))} : Tk ns l l' → ns.length = q → Ms q (l' ++ [(sumW ns, true)]) ms → Ms q l (ns :: ms)
theorem Ms.len {q : Nat} (hq : 2 ≤ q) {l : List (Nat × Bool)} {ms : List (List (Nat × Nat))} (h : Ms q l ms) : ms.length * (q - 1) + 1 = cf l := by
  induction h with
  | nil h => simp [h]
  | @cons l l' ns ms h1 h2 _ ih =>
    have := h1.took.cf
    rw [cf_snoc] at ih
    rw [List.length_cons, Nat.add_mul, Nat.one_mul]
    omega
/-- The sums of merges that always join the least ones. -/
inductive MsL (q : Nat) : List (Nat × Bool) → List (List (Nat × Nat)) → Prop
  | nil {l : List (Nat × Bool)} : cf l = 1 → MsL q l []
  | cons {l l' : List (Nat × Bool)} {ns : List (Nat × Nat)} {ms : List (List (Nat × Nat))} : Tk ns l l' → ns.length = q → (∀ x ∈ ns, ∀ b ∈ fw l', x.2 ≤ b) → MsL q (l' ++ [(sumW ns, true)]) ms → MsL q l (ns :: ms)
theorem MsL.ms {q : Nat} {l : List (Nat × Bool)} {ms : List (List (Nat × Nat))} (h : MsL q l ms) : Ms q l ms := by
  induction h with
  | nil h => exact .nil h
  | cons h1 h2 _ _ ih => exact .cons h1 h2 ih
end Go.Proofs.Gv
