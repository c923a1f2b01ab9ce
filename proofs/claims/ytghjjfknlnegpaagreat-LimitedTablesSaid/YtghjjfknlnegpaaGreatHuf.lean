/- Texts joined. -/
set_option linter.unusedSimpArgs false
set_option linter.unusedVariables false
namespace Go.Proofs.Gv

theorem perm_lift {α β : Type} (f : α → β) {k l : List β} (h : k.Perm l) : ∀ p : List α, p.map f = k → ∃ p' : List α, p'.Perm p ∧ p'.map f = l := by
  induction h with
  | nil => intro p hp; exact ⟨p, .refl _, hp⟩
  | cons x _ ih =>
    intro p hp
    cases p with
    | nil => cases hp
    | cons a p =>
      simp only [List.map_cons, List.cons.injEq] at hp
      obtain ⟨p', h1, h2⟩ := ih p hp.2
      exact ⟨a :: p', h1.cons a, by rw [List.map_cons, h2, hp.1]⟩
  | swap x y l =>
    intro p hp
    match p, hp with
    | a :: b :: p, hp =>
      simp only [List.map_cons, List.cons.injEq] at hp
      exact ⟨b :: a :: p, .swap _ _ _, by simp [hp.1, hp.2.1, hp.2.2]⟩
  | trans _ _ ih1 ih2 =>
    intro p hp
    obtain ⟨p1, h1, h2⟩ := ih1 p hp
    obtain ⟨p2, h3, h4⟩ := ih2 p1 h2
    exact ⟨p2, h3.trans h1, h4⟩
/-- What lengths take of the room at depth M. -/
def kr (q M : Nat) (p : List (Nat × Nat)) : Nat := (p.map fun x => q ^ (M - x.2)).sum
/-- The cost. -/
def csP (p : List (Nat × Nat)) : Nat := (p.map fun x => x.1 * x.2).sum
theorem kr_append (q M : Nat) (a b : List (Nat × Nat)) : kr q M (a ++ b) = kr q M a + kr q M b := by simp [kr]
theorem csP_append (a b : List (Nat × Nat)) : csP (a ++ b) = csP a + csP b := by simp [csP]
theorem kr_cons (q M : Nat) (x : Nat × Nat) (b : List (Nat × Nat)) : kr q M (x :: b) = q ^ (M - x.2) + kr q M b := by simp [kr]
theorem csP_cons (x : Nat × Nat) (b : List (Nat × Nat)) : csP (x :: b) = x.1 * x.2 + csP b := by simp [csP]
theorem kr_perm {q M : Nat} {a b : List (Nat × Nat)} (h : a.Perm b) : kr q M a = kr q M b := (h.map _).sum_nat
theorem csP_perm {a b : List (Nat × Nat)} (h : a.Perm b) : csP a = csP b := (h.map _).sum_nat
theorem kr_up {q L M : Nat} (hLM : L ≤ M) : ∀ {p : List (Nat × Nat)}, (∀ x ∈ p, x.2 ≤ L) → kr q M p = q ^ (M - L) * kr q L p
  | [], _ => by simp [kr]
  | x :: p, h => by
    have hx := h x (List.mem_cons_self ..)
    rw [kr_cons, kr_cons, kr_up hLM (fun y hy => h y (List.mem_cons_of_mem _ hy)), Nat.mul_add, ← Nat.pow_add]
    congr 2
    omega
/-- The lengths fit q letters. -/
def Fit (q : Nat) (p : List (Nat × Nat)) : Prop := ∃ L, (∀ x ∈ p, x.2 ≤ L) ∧ kr q L p ≤ q ^ L
/-- Merging the q least weights again and again, till one is left; the sums in all. -/
inductive Red (q : Nat) : List Nat → Nat → Prop
  | one (w : Nat) : Red q [w] 0
  | step {W A B : List Nat} {c : Nat} : W.Perm (A ++ B) → A.length = q → (∀ a ∈ A, ∀ b ∈ B, a ≤ b) → Red q (A.sum :: B) c → Red q W (A.sum + c)
theorem sum_same {M : Nat} : ∀ {p : List (Nat × Nat)}, (∀ x ∈ p, x.2 = M) → csP p = (p.map (·.1)).sum * M ∧ ∀ q, kr q M p = p.length
  | [], _ => by simp [csP, kr]
  | x :: p, h => by
    have hx := h x (List.mem_cons_self ..)
    obtain ⟨h1, h2⟩ := sum_same (fun y hy => h y (List.mem_cons_of_mem _ hy))
    refine ⟨by rw [csP_cons, h1, hx, List.map_cons, List.sum_cons, Nat.add_mul], fun q => by rw [kr_cons, h2, hx, Nat.sub_self, Nat.pow_zero, List.length_cons, Nat.add_comm]⟩
/-- There are lengths that fit and cost so much. -/
theorem Red.made {q : Nat} (hq : 2 ≤ q) {W : List Nat} {c : Nat} (h : Red q W c) : ∃ p : List (Nat × Nat), p.map (·.1) = W ∧ Fit q p ∧ csP p = c := by
  induction h with
  | one w => exact ⟨[(w, 0)], rfl, ⟨0, by simp, by simp [kr]⟩, by simp [csP]⟩
  | @step W A B c hp hA hAB hr ih =>
    obtain ⟨p, h1, ⟨L, h2, h3⟩, h4⟩ := ih
    cases p with
    | nil => cases h1
    | cons x pB =>
      simp only [List.map_cons, List.cons.injEq] at h1
      have hx := h2 x (List.mem_cons_self ..)
      have e1 : ∀ a ∈ A.map (fun w => (w, x.2 + 1)), a.2 = x.2 + 1 := fun a ha => by obtain ⟨w, -, rfl⟩ := List.mem_map.1 ha; rfl
      obtain ⟨s1, s2⟩ := sum_same e1
      have mA : (A.map (fun w => (w, x.2 + 1))).map (·.1) = A := by rw [List.map_map]; simp [Function.comp_def]
      have g : ((A.map (fun w => (w, x.2 + 1)) ++ pB).map (·.1)) = A ++ B := by rw [List.map_append, mA, h1.2]
      obtain ⟨p', g1, g2⟩ := perm_lift (fun x : Nat × Nat => x.1) hp.symm _ g
      have hle : ∀ y ∈ A.map (fun w => (w, x.2 + 1)) ++ pB, y.2 ≤ L + 1 := fun y hy => by
        rcases List.mem_append.1 hy with hy | hy
        · rw [e1 y hy]; omega
        · have := h2 y (List.mem_cons_of_mem _ hy); omega
      refine ⟨p', g2, ⟨L + 1, fun y hy => hle y (g1.mem_iff.1 hy), ?_⟩, ?_⟩
      · rw [kr_perm g1, kr_append, kr_up (L := x.2 + 1) (by omega) (fun y hy => by rw [e1 y hy]; exact Nat.le_refl _), s2, List.length_map, hA, kr_up (L := L) (by omega) (fun y hy => h2 y (List.mem_cons_of_mem _ hy))]
        rw [kr_cons] at h3
        rw [show L + 1 - L = 1 by omega, Nat.pow_one, Nat.pow_succ, Nat.mul_comm (q ^ L), show L + 1 - (x.2 + 1) = L - x.2 by omega, Nat.mul_comm _ q, ← Nat.mul_add]
        exact Nat.mul_le_mul_left _ h3
      · rw [csP_perm g1, csP_append, s1, mA, ← h4, csP_cons, ← h1.1, Nat.mul_add, Nat.mul_one]
        omega
end Go.Proofs.Gv
