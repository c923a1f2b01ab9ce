/- The code tree, plainly: nodes with their weights, free or not; each round takes the q least free ones. -/
import Derived.Test.YtghjjfknlnegpaaGreatHuf
set_option linter.unusedSimpArgs false
set_option linter.unusedVariables false
namespace Go.Proofs.Gv

/-- The free nodes: a sum over them. -/
def sfG (g : Nat → Nat → Nat) : Nat → List (Nat × Bool) → Nat
  | _, [] => 0
  | i, (w, f) :: r => (if f then g i w else 0) + sfG g (i + 1) r
def sf (g : Nat → Nat → Nat) (l : List (Nat × Bool)) : Nat := sfG g 0 l
/-- The weights of the free nodes. -/
def fw (l : List (Nat × Bool)) : List Nat := (l.filter (·.2)).map (·.1)
/-- How many are free. -/
def cf (l : List (Nat × Bool)) : Nat := (l.filter (·.2)).length
theorem fw_len (l : List (Nat × Bool)) : (fw l).length = cf l := by simp [fw, cf]
/-- The least free node, the first of equal ones: index and weight. -/
def leastG : Nat → List (Nat × Bool) → Option (Nat × Nat)
  | _, [] => none
  | i, (w, f) :: r => match leastG (i + 1) r with
    | none => if f then some (i, w) else none
    | some (k, v) => if f && decide (w ≤ v) then some (i, w) else some (k, v)
def leastO (l : List (Nat × Bool)) : Option (Nat × Nat) := leastG 0 l
def IsLeast (l : List (Nat × Bool)) (k w : Nat) : Prop := l[k]? = some (w, true) ∧ ∀ i v : Nat, l[i]? = some (v, true) → w < v ∨ (w = v ∧ k ≤ i)
theorem leastG_none : ∀ (l : List (Nat × Bool)) (o : Nat), leastG o l = none → ∀ (i w : Nat), l[i]? ≠ some (w, true)
  | [], _, _, i, w => by simp
  | (v, f) :: r, o, h, i, w => by
    unfold leastG at h
    cases hr : leastG (o + 1) r with
    | none =>
      rw [hr] at h
      cases f with
      | true => simp at h
      | false =>
        cases i with
        | zero => simp
        | succ i => simpa using leastG_none r (o + 1) hr i w
    | some x =>
      rw [hr] at h
      simp only at h
      split at h <;> cases h
theorem leastG_some : ∀ (l : List (Nat × Bool)) (o k w : Nat), leastG o l = some (k, w) → ∃ j, k = o + j ∧ IsLeast l j w
  | [], _, k, w, h => by cases h
  | (v, f) :: r, o, k, w, h => by
    unfold leastG at h
    cases hr : leastG (o + 1) r with
    | none =>
      rw [hr] at h
      have hn := leastG_none r _ hr
      cases f with
      | false => simp at h
      | true =>
        simp only [if_true, Option.some.injEq, Prod.mk.injEq] at h
        obtain ⟨rfl, rfl⟩ := h
        refine ⟨0, rfl, rfl, fun i u hi => ?_⟩
        cases i with
        | zero => simp at hi; exact .inr ⟨hi, Nat.le_refl _⟩
        | succ i => exact absurd (by simpa using hi) (hn i u)
    | some x =>
      obtain ⟨k', v'⟩ := x
      rw [hr] at h
      obtain ⟨j, rfl, h1, h2⟩ := leastG_some r (o + 1) k' v' hr
      simp only at h
      split at h
      · rename_i hc
        simp only [Bool.and_eq_true, decide_eq_true_eq] at hc
        simp only [Option.some.injEq, Prod.mk.injEq] at h
        obtain ⟨rfl, rfl⟩ := h
        obtain ⟨rfl, hle⟩ := hc
        refine ⟨0, rfl, rfl, fun i u hi => ?_⟩
        cases i with
        | zero => simp at hi; exact .inr ⟨hi, Nat.le_refl _⟩
        | succ i =>
          have := h2 i u (by simpa using hi)
          omega
      · rename_i hc
        simp only [Option.some.injEq, Prod.mk.injEq] at h
        obtain ⟨rfl, rfl⟩ := h
        refine ⟨j + 1, by omega, by simpa using h1, fun i u hi => ?_⟩
        cases i with
        | zero =>
          simp only [List.getElem?_cons_zero, Option.some.injEq, Prod.mk.injEq] at hi
          obtain ⟨rfl, rfl⟩ := hi
          simp at hc
          exact .inl hc
        | succ i =>
          have := h2 i u (by simpa using hi)
          omega
theorem leastO_some {l : List (Nat × Bool)} {k w : Nat} (h : leastO l = some (k, w)) : IsLeast l k w := by
  obtain ⟨j, rfl, h⟩ := leastG_some l 0 k w h
  rwa [Nat.zero_add]
theorem cf_pos {l : List (Nat × Bool)} (h : 0 < cf l) : ∃ k w, leastO l = some (k, w) := by
  cases hl : leastO l with
  | some x => exact ⟨x.1, x.2, rfl⟩
  | none =>
    obtain ⟨x, hx⟩ := List.exists_mem_of_length_pos h
    obtain ⟨h1, h2⟩ := List.mem_filter.1 hx
    obtain ⟨i, hi⟩ := List.getElem?_of_mem h1
    exact absurd (by rw [hi]; obtain ⟨w, f⟩ := x; simp at h2; rw [h2]) (leastG_none l 0 hl i x.1)
/-- Taking the node out. -/
theorem set_split {l : List (Nat × Bool)} {k w : Nat} (h : l[k]? = some (w, true)) : ∃ a b, l = a ++ (w, true) :: b ∧ a.length = k ∧ ∀ x, l.set k x = a ++ x :: b := by
  obtain ⟨hk, e⟩ := List.getElem?_eq_some_iff.1 h
  refine ⟨l.take k, l.drop (k + 1), ?_, by simp; omega, fun x => ?_⟩
  · rw [← e, ← List.drop_eq_getElem_cons hk, List.take_append_drop]
  · rw [List.set_eq_take_append_cons_drop, if_pos hk]
theorem sfG_append (g : Nat → Nat → Nat) : ∀ (a b : List (Nat × Bool)) (o : Nat), sfG g o (a ++ b) = sfG g o a + sfG g (o + a.length) b
  | [], b, o => by simp [sfG]
  | x :: a, b, o => by
    simp only [List.cons_append, sfG, List.length_cons]
    rw [sfG_append g a b, show o + 1 + a.length = o + (a.length + 1) by omega, Nat.add_assoc]
theorem sf_set (g : Nat → Nat → Nat) {l : List (Nat × Bool)} {k w : Nat} (h : l[k]? = some (w, true)) : sf g l = g k w + sf g (l.set k (w, false)) := by
  obtain ⟨a, b, e, rfl, hs⟩ := set_split h
  rw [hs, e]
  unfold sf
  simp only [sfG_append, sfG, Nat.zero_add, if_true]
  simp
  omega
theorem fw_set {l : List (Nat × Bool)} {k w : Nat} (h : l[k]? = some (w, true)) : (fw l).Perm (w :: fw (l.set k (w, false))) := by
  obtain ⟨a, b, e, -, hs⟩ := set_split h
  rw [hs, e]
  unfold fw
  simp only [List.filter_append, List.filter_cons, if_true, List.map_append, List.map_cons]
  simp only [Bool.false_eq_true, if_false]
  exact List.perm_middle
theorem cf_set {l : List (Nat × Bool)} {k w : Nat} (h : l[k]? = some (w, true)) : cf l = cf (l.set k (w, false)) + 1 := by
  have := (fw_set h).length_eq
  rw [fw_len, List.length_cons, fw_len] at this
  exact this
theorem cf_snoc (l : List (Nat × Bool)) (s : Nat) : cf (l ++ [(s, true)]) = cf l + 1 := by simp [cf, List.filter_append]
/-- The q least ones, one behind the other. -/
def takeN : Nat → List (Nat × Bool) → List (Nat × Nat) × List (Nat × Bool)
  | 0, l => ([], l)
  | q + 1, l => match leastO l with
    | none => ([], l)
    | some (k, w) => ((k, w) :: (takeN q (l.set k (w, false))).1, (takeN q (l.set k (w, false))).2)
theorem takeN_succ {q : Nat} {l : List (Nat × Bool)} {k w : Nat} (h : leastO l = some (k, w)) : takeN (q + 1) l = ((k, w) :: (takeN q (l.set k (w, false))).1, (takeN q (l.set k (w, false))).2) := by
  simp only [takeN, h]
/-- The rounds: till one node is free. -/
def treeN (q : Nat) : Nat → List (Nat × Bool) → List (List (Nat × Nat))
  | 0, _ => []
  | n + 1, l => if cf l ≤ 1 then [] else (takeN q l).1 :: treeN q n ((takeN q l).2 ++ [(((takeN q l).1.map (·.2)).sum, true)])
theorem Red.perm {q : Nat} {W W' : List Nat} {c : Nat} (h : Red q W c) (hp : W.Perm W') : Red q W' c := by
  cases h with
  | one w => rw [List.perm_singleton.1 hp.symm]; exact .one w
  | step h1 h2 h3 h4 => exact .step (hp.symm.trans h1) h2 h3 h4
/-- The depths, from the last merge on: each node of a merge stands one below the node that it makes. -/
def depStep (p : Nat) (ns : List (Nat × Nat)) (d : List Nat) : List Nat := ns.foldl (fun d x => d.set x.1 (d.getD p 0 + 1)) d
def depR : Nat → List (List (Nat × Nat)) → List Nat → List Nat
  | _, [], d => d
  | p, ns :: r, d => depStep p ns (depR (p + 1) r d)
end Go.Proofs.Gv
