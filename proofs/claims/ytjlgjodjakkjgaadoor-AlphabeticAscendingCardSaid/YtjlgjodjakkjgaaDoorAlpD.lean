/- Ordered codes, plainly: the depths of the tree fit and cost the least; turned lists; weights that ascend or descend. -/
import Derived.Test.YtjlgjodjakkjgaaDoorAlpP
import Derived.Test.YtjlgjodjakkjgaaDoorHufSP
set_option linter.unusedSimpArgs false
set_option linter.unusedVariables false
namespace Go.Proofs.Gv

theorem asc_append : ∀ (a b : List (Nat × Nat)), asc a → asc b → (∀ x ∈ a, ∀ y ∈ b, (x.2 + 1) * 2 ^ y.1 ≤ y.2 * 2 ^ x.1) → asc (a ++ b)
  | [], b, _, hb, _ => hb
  | x :: a, b, ha, hb, h => by
    rw [List.cons_append]
    refine asc_cons (asc_bound _ ha x (List.mem_cons_self ..)) (asc_append a b (asc_tail ha) hb fun y hy z hz => h y (List.mem_cons_of_mem _ hy) z hz) fun y hy => ?_
    rcases List.mem_append.1 hy with hy | hy
    · exact asc_far a x ha y hy
    · exact h x (List.mem_cons_self ..) y hy
theorem asc_left : ∀ p : List (Nat × Nat), asc p → asc (p.map fun x => (x.1 + 1, x.2))
  | p, h => asc_map _ (fun _ => True) (fun x _ hx => by show x.2 < 2 ^ (x.1 + 1); rw [Nat.pow_succ]; omega) (fun x y _ _ hxy => by
      show (x.2 + 1) * 2 ^ (y.1 + 1) ≤ y.2 * 2 ^ (x.1 + 1)
      rw [Nat.pow_succ, Nat.pow_succ, ← Nat.mul_assoc, ← Nat.mul_assoc]
      exact Nat.mul_le_mul_right _ hxy) p (fun _ _ => trivial) h
theorem asc_right : ∀ p : List (Nat × Nat), asc p → asc (p.map fun x => (x.1 + 1, x.2 + 2 ^ x.1))
  | p, h => asc_map _ (fun _ => True) (fun x _ hx => by show x.2 + 2 ^ x.1 < 2 ^ (x.1 + 1); rw [Nat.pow_succ]; omega) (fun x y _ _ hxy => by
      show (x.2 + 2 ^ x.1 + 1) * 2 ^ (y.1 + 1) ≤ (y.2 + 2 ^ y.1) * 2 ^ (x.1 + 1)
      rw [Nat.pow_succ, Nat.pow_succ, ← Nat.mul_assoc, ← Nat.mul_assoc]
      refine Nat.mul_le_mul_right _ ?_
      rw [show x.2 + 2 ^ x.1 + 1 = x.2 + 1 + 2 ^ x.1 by omega, Nat.add_mul (x.2 + 1), Nat.add_mul y.2, Nat.mul_comm (2 ^ x.1) (2 ^ y.1)]
      omega) p (fun _ _ => trivial) h
theorem csP_succ : ∀ (W l : List Nat), W.length = l.length → csP (W.zip (l.map (· + 1))) = W.sum + csP (W.zip l)
  | [], l, _ => by simp [csP]
  | w :: W, [], h => by cases h
  | w :: W, n :: l, h => by
    simp only [List.map_cons, List.zip_cons_cons, csP_cons, List.sum_cons, csP_succ W l (by simpa using h), Nat.mul_add, Nat.mul_one]
    omega
/-- The depths of the tree: as many as weights, at the least cost, and there are words for them. -/
theorem alD_spec : ∀ (f : Nat) (W : List Nat), W.length ≤ f → 1 ≤ W.length → (alD f W).length = W.length ∧ csP (W.zip (alD f W)) = alc W ∧ (∃ vs, vs.length = W.length ∧ asc ((alD f W).zip vs)) ∧ (2 ≤ W.length → ∀ n ∈ alD f W, 1 ≤ n) ∧ ∀ n ∈ alD f W, n + 1 ≤ W.length
  | 0, W, h, h1 => by omega
  | f + 1, W, h, h1 => by
    unfold alD
    by_cases hl : W.length ≤ 1
    · rw [if_pos hl]
      obtain ⟨w, rfl⟩ := List.length_eq_one_iff.1 (show W.length = 1 by omega)
      exact ⟨rfl, by rw [alc_one hl]; simp [csP], ⟨[0], rfl, by show 0 < 2 ^ 0; decide⟩, fun h => by simp at h, fun n hn => by rw [List.mem_singleton.1 hn]; simp⟩
    · rw [if_neg hl]
      have hk := (minK_spec (spl W) (W.length - 2)).1
      rw [← alK_eq h hl] at hk
      generalize hkk : alK f W = k at hk
      have lt : (W.take (k + 1)).length = k + 1 := by rw [List.length_take]; omega
      have ld : (W.drop (k + 1)).length = W.length - (k + 1) := List.length_drop
      obtain ⟨a1, a2, ⟨va, a3, a4⟩, a5, a6⟩ := alD_spec f (W.take (k + 1)) (by omega) (by omega)
      obtain ⟨b1, b2, ⟨vb, b3, b4⟩, b5, b6⟩ := alD_spec f (W.drop (k + 1)) (by omega) (by omega)
      have eW : W = W.take (k + 1) ++ W.drop (k + 1) := (List.take_append_drop _ _).symm
      refine ⟨by rw [List.length_append, List.length_map, List.length_map, a1, b1]; omega, ?_, ?_, ?_, ?_⟩
      · have hWs : W.sum = (W.take (k + 1)).sum + (W.drop (k + 1)).sum := by conv => lhs; rw [eW, List.sum_append_nat]
        have hz : ∀ X Y : List Nat, X.length = (W.take (k + 1)).length → csP (W.zip (X ++ Y)) = csP ((W.take (k + 1)).zip X) + csP ((W.drop (k + 1)).zip Y) := fun X Y hX => by
          conv => lhs; rw [eW, List.zip_append hX.symm]
          exact csP_append _ _
        rw [hz _ _ (by rw [List.length_map, a1]), csP_succ _ _ a1.symm, csP_succ _ _ b1.symm, a2, b2, alc_more hl, (minK_spec (spl W) (W.length - 2)).2.1, ← alK_eq h hl, hkk]
        unfold spl
        omega
      · refine ⟨va ++ List.zipWith (fun n v => v + 2 ^ n) (alD f (W.drop (k + 1))) vb, by rw [List.length_append, List.length_zipWith, a3, b1, b3]; omega, ?_⟩
        rw [List.zip_append (by rw [List.length_map, a1, a3])]
        have e1 : ∀ (l v : List Nat), (l.map (· + 1)).zip v = (l.zip v).map fun x => (x.1 + 1, x.2) := fun l => by
          induction l with
          | nil => intro v; simp
          | cons n l ih => intro v; cases v with
            | nil => simp
            | cons x v => simp [ih]
        have e2 : ∀ (l v : List Nat), (l.map (· + 1)).zip (List.zipWith (fun n v => v + 2 ^ n) l v) = (l.zip v).map fun x => (x.1 + 1, x.2 + 2 ^ x.1) := fun l => by
          induction l with
          | nil => intro v; simp
          | cons n l ih => intro v; cases v with
            | nil => simp
            | cons x v => simp [ih]
        rw [e1, e2]
        refine asc_append _ _ (asc_left _ a4) (asc_right _ b4) fun x hx y hy => ?_
        obtain ⟨u, hu, rfl⟩ := List.mem_map.1 hx
        obtain ⟨v, hv, rfl⟩ := List.mem_map.1 hy
        have hub := asc_bound _ a4 u hu
        show (u.2 + 1) * 2 ^ (v.1 + 1) ≤ (v.2 + 2 ^ v.1) * 2 ^ (u.1 + 1)
        have h2 : (u.2 + 1) * 2 ^ (v.1 + 1) ≤ 2 ^ u.1 * 2 ^ (v.1 + 1) := Nat.mul_le_mul_right _ hub
        have h3 : 2 ^ v.1 * 2 ^ (u.1 + 1) ≤ (v.2 + 2 ^ v.1) * 2 ^ (u.1 + 1) := Nat.mul_le_mul_right _ (by omega)
        have h4 : 2 ^ u.1 * 2 ^ (v.1 + 1) = 2 ^ v.1 * 2 ^ (u.1 + 1) := by rw [Nat.pow_succ, Nat.pow_succ, ← Nat.mul_assoc, ← Nat.mul_assoc, Nat.mul_comm (2 ^ u.1)]
        omega
      · intro _ n hn
        rcases List.mem_append.1 hn with hn | hn <;> obtain ⟨m, -, rfl⟩ := List.mem_map.1 hn <;> omega
      · intro n hn
        rcases List.mem_append.1 hn with hn | hn
        · obtain ⟨m, hm, rfl⟩ := List.mem_map.1 hn
          have := a6 m hm; omega
        · obtain ⟨m, hm, rfl⟩ := List.mem_map.1 hn
          have := b6 m hm; omega
end Go.Proofs.Gv
