/- Texts joined. -/
set_option linter.unusedSimpArgs false
set_option linter.unusedVariables false
namespace Go.Proofs.Gv

theorem perm_lift {α β : Type} (f : α → β) {k l : List β} (h : k.Perm l) : ∀ p : List α, p.map f = k → ∃ p' : List α, p'.Perm p ∧ p'.map f = l := by
  induction h with
  | nil => intro p hp; exact ⟨p, .refl _, hp⟩
  | cons x _ ih =>
    intro p hp
    cases p with
    | nil => cases hp
    | cons a p =>
      simp only [List.map_cons, List.cons.injEq] at hp
      obtain ⟨p', h1, h2⟩ := ih p hp.2
      exact ⟨a :: p', h1.cons a, by rw [List.map_cons, h2, hp.1]⟩
  | swap x y l =>
    intro p hp
    match p, hp with
    | a :: b :: p, hp =>
      simp only [List.map_cons, List.cons.injEq] at hp
      exact ⟨b :: a :: p, .swap _ _ _, by simp [hp.1, hp.2.1, hp.2.2]⟩
  | trans _ _ ih1 ih2 =>
    intro p hp
    obtain ⟨p1, h1, h2⟩ := ih1 p hp
    obtain ⟨p2, h3, h4⟩ := ih2 p1 h2
    exact ⟨p2, h3.trans h1, h4⟩
theorem map_append_lift {α β : Type} (f : α → β) : ∀ (A B : List β) (p : List α), p.map f = A ++ B → ∃ pA pB, p = pA ++ pB ∧ pA.map f = A ∧ pB.map f = B
  | [], B, p, h => ⟨[], p, rfl, rfl, h⟩
  | a :: A, B, p, h => by
    cases p with
    | nil => cases h
    | cons x p =>
      simp only [List.map_cons, List.cons_append, List.cons.injEq] at h
      obtain ⟨pA, pB, h1, h2, h3⟩ := map_append_lift f A B p h.2
      exact ⟨x :: pA, pB, by rw [h1]; rfl, by rw [List.map_cons, h2, h.1], h3⟩
/-- What lengths take of the room at depth M. -/
def kr (q M : Nat) (p : List (Nat × Nat)) : Nat := (p.map fun x => q ^ (M - x.2)).sum
/-- The cost. -/
def csP (p : List (Nat × Nat)) : Nat := (p.map fun x => x.1 * x.2).sum
theorem kr_append (q M : Nat) (a b : List (Nat × Nat)) : kr q M (a ++ b) = kr q M a + kr q M b := by simp [kr]
theorem csP_append (a b : List (Nat × Nat)) : csP (a ++ b) = csP a + csP b := by simp [csP]
theorem kr_cons (q M : Nat) (x : Nat × Nat) (b : List (Nat × Nat)) : kr q M (x :: b) = q ^ (M - x.2) + kr q M b := by simp [kr]
theorem csP_cons (x : Nat × Nat) (b : List (Nat × Nat)) : csP (x :: b) = x.1 * x.2 + csP b := by simp [csP]
theorem kr_perm {q M : Nat} {a b : List (Nat × Nat)} (h : a.Perm b) : kr q M a = kr q M b := (h.map _).sum_nat
theorem csP_perm {a b : List (Nat × Nat)} (h : a.Perm b) : csP a = csP b := (h.map _).sum_nat
theorem kr_up {q L M : Nat} (hLM : L ≤ M) : ∀ {p : List (Nat × Nat)}, (∀ x ∈ p, x.2 ≤ L) → kr q M p = q ^ (M - L) * kr q L p
  | [], _ => by simp [kr]
  | x :: p, h => by
    have hx := h x (List.mem_cons_self ..)
    rw [kr_cons, kr_cons, kr_up hLM (fun y hy => h y (List.mem_cons_of_mem _ hy)), Nat.mul_add, ← Nat.pow_add]
    congr 2
    omega
/-- The lengths fit q letters. -/
def Fit (q : Nat) (p : List (Nat × Nat)) : Prop := ∃ L, (∀ x ∈ p, x.2 ≤ L) ∧ kr q L p ≤ q ^ L
theorem fit_at {q : Nat} (hq : 2 ≤ q) {p : List (Nat × Nat)} {M : Nat} (hM : ∀ x ∈ p, x.2 ≤ M) (h : Fit q p) : kr q M p ≤ q ^ M := by
  obtain ⟨L, h1, h2⟩ := h
  rcases Nat.le_total L M with h3 | h3
  · rw [kr_up h3 h1]
    calc q ^ (M - L) * kr q L p ≤ q ^ (M - L) * q ^ L := Nat.mul_le_mul_left _ h2
      _ = q ^ M := by rw [← Nat.pow_add]; congr 1; omega
  · rw [kr_up h3 hM] at h2
    have e : q ^ L = q ^ (L - M) * q ^ M := by rw [← Nat.pow_add]; congr 1; omega
    rw [e] at h2
    exact Nat.le_of_mul_le_mul_left h2 (Nat.pow_pos (by omega))
/-- Whatever is reckoned with powers of q is the number of items, but for multiples of q - 1. -/
theorem kr_mod {q M : Nat} (hq : 2 ≤ q) : ∀ {p : List (Nat × Nat)}, kr q M p % (q - 1) = p.length % (q - 1)
  | [] => by simp [kr]
  | x :: p => by
    have hp : ∀ k, q ^ k % (q - 1) = 1 % (q - 1) := fun k => by
      rw [Nat.pow_mod]
      have : q % (q - 1) = 1 % (q - 1) := by
        obtain ⟨r, rfl⟩ : ∃ r, q = 1 + r := ⟨q - 1, by omega⟩
        rw [show 1 + r - 1 = r by omega, Nat.add_mod_right]
      rw [this, ← Nat.pow_mod, Nat.one_pow]
    rw [kr_cons, Nat.add_mod, hp, kr_mod hq, ← Nat.add_mod, List.length_cons, Nat.add_comm]
theorem pow_mod1 {q : Nat} (hq : 2 ≤ q) (k : Nat) : q ^ k % (q - 1) = 1 % (q - 1) := by
  have := kr_mod (q := q) (M := k) hq (p := [(0, 0)])
  simpa [kr] using this
/-- Those of the greatest length. -/
def cntL (L : Nat) (p : List (Nat × Nat)) : Nat := (p.filter fun x => x.2 == L).length
theorem cntL_append (L : Nat) (a b : List (Nat × Nat)) : cntL L (a ++ b) = cntL L a + cntL L b := by simp [cntL]
theorem kr_modq {q L : Nat} (hq : 2 ≤ q) : ∀ {p : List (Nat × Nat)}, (∀ x ∈ p, x.2 ≤ L) → kr q L p % q = cntL L p % q
  | [], _ => by simp [kr, cntL]
  | x :: p, h => by
    have hx := h x (List.mem_cons_self ..)
    have ih := kr_modq hq (fun y hy => h y (List.mem_cons_of_mem _ hy))
    rw [kr_cons]
    by_cases he : x.2 = L
    · rw [he, Nat.sub_self, Nat.pow_zero]
      have : cntL L (x :: p) = 1 + cntL L p := by simp [cntL, List.filter_cons, he]; omega
      rw [this, Nat.add_mod, ih, ← Nat.add_mod]
    · have : cntL L (x :: p) = cntL L p := by simp [cntL, List.filter_cons, he]
      rw [this, ← ih]
      have e : q ^ (L - x.2) = q * q ^ (L - x.2 - 1) := by rw [← Nat.pow_succ']; congr 1; omega
      rw [e, Nat.mul_add_mod]
theorem cntL_le (L : Nat) (p : List (Nat × Nat)) : cntL L p ≤ p.length := List.length_filter_le ..
theorem cntL_all {L : Nat} : ∀ {p : List (Nat × Nat)}, cntL L p = p.length → ∀ x ∈ p, x.2 = L := by
  intro p h x hx
  have := List.length_filter_eq_length_iff.1 h x hx
  simpa using this
theorem cntL_none {L : Nat} {p : List (Nat × Nat)} (h : cntL L p = 0) : ∀ x ∈ p, x.2 ≠ L := by
  intro x hx he
  have : x ∈ p.filter fun x => x.2 == L := List.mem_filter.2 ⟨hx, by simpa using he⟩
  unfold cntL at h
  rw [List.length_eq_zero_iff.1 h] at this
  cases this
theorem cntL_pos {L : Nat} {p : List (Nat × Nat)} (h : 0 < cntL L p) : ∃ a b w, p = a ++ (w, L) :: b := by
  obtain ⟨x, hx⟩ := List.exists_mem_of_length_pos h
  obtain ⟨h1, h2⟩ := List.mem_filter.1 hx
  obtain ⟨a, b, e⟩ := List.append_of_mem h1
  refine ⟨a, b, x.1, ?_⟩
  have h3 : x.2 = L := by simpa using h2
  rw [e, ← h3]
theorem cntL_lt {L : Nat} {p : List (Nat × Nat)} (h : cntL L p < p.length) : ∃ a b w l, p = a ++ (w, l) :: b ∧ l ≠ L := by
  have : ¬ ∀ x ∈ p, (x.2 == L) = true := fun hall => by
    have := List.length_filter_eq_length_iff.2 hall
    unfold cntL at h
    omega
  have h2 : ∃ x ∈ p, (x.2 == L) ≠ true := by
    apply Classical.byContradiction
    intro hn
    exact this fun x hx => Classical.byContradiction fun hne => hn ⟨x, hx, hne⟩
  obtain ⟨x, hx, hne⟩ := h2
  obtain ⟨a, b, e⟩ := List.append_of_mem hx
  exact ⟨a, b, x.1, x.2, e, by simpa using hne⟩
/-- The least weights may have the greatest length, if there are enough of that length. -/
theorem push_down {q L : Nat} : ∀ (k : Nat) (pA pB : List (Nat × Nat)), pA.length - cntL L pA = k → (∀ a ∈ pA, ∀ b ∈ pB, a.1 ≤ b.1) → (∀ x ∈ pA ++ pB, x.2 ≤ L) → pA.length ≤ cntL L (pA ++ pB) →
    ∃ pA' pB', pA'.map (·.1) = pA.map (·.1) ∧ pB'.map (·.1) = pB.map (·.1) ∧ (∀ x ∈ pA', x.2 = L) ∧ (∀ x ∈ pB', x.2 ≤ L) ∧ kr q L (pA' ++ pB') = kr q L (pA ++ pB) ∧ csP (pA' ++ pB') ≤ csP (pA ++ pB) := by
  intro k
  induction k with
  | zero =>
    intro pA pB hk _ hle _
    have := cntL_le L pA
    exact ⟨pA, pB, rfl, rfl, cntL_all (by omega), fun x hx => hle x (List.mem_append_right _ hx), rfl, Nat.le_refl _⟩
  | succ k ih =>
    intro pA pB hk hAB hle hc
    have h1 := cntL_le L pA
    obtain ⟨a1, a2, w, l, eA, hl⟩ := cntL_lt (L := L) (p := pA) (by omega)
    rw [cntL_append] at hc
    obtain ⟨b1, b2, v, eB⟩ := cntL_pos (L := L) (p := pB) (by omega)
    have hlL : l ≤ L := hle (w, l) (by rw [eA]; simp)
    have hwv : w ≤ v := hAB (w, l) (by rw [eA]; simp) (v, L) (by rw [eB]; simp)
    have cA : cntL L pA = cntL L a1 + cntL L a2 := by rw [eA, cntL_append]; simp [cntL, List.filter_cons, hl]
    have cB : cntL L pB = cntL L b1 + cntL L b2 + 1 := by rw [eB, cntL_append]; simp [cntL, List.filter_cons]; omega
    have cA' : cntL L (a1 ++ (w, L) :: a2) = cntL L pA + 1 := by rw [cntL_append, cA]; simp [cntL, List.filter_cons]; omega
    have cB' : cntL L (b1 ++ (v, l) :: b2) = cntL L b1 + cntL L b2 := by rw [cntL_append]; simp [cntL, List.filter_cons, hl]
    have lA : (a1 ++ (w, L) :: a2).length = pA.length := by rw [eA]; simp
    have mA : (a1 ++ (w, L) :: a2).map (·.1) = pA.map (·.1) := by rw [eA]; simp
    have mB : (b1 ++ (v, l) :: b2).map (·.1) = pB.map (·.1) := by rw [eB]; simp
    obtain ⟨pA', pB', i1, i2, i3, i4, i5, i6⟩ := ih (a1 ++ (w, L) :: a2) (b1 ++ (v, l) :: b2) (by omega) (by
        intro a ha b hb
        have ha' : a.1 ∈ pA.map (·.1) := by rw [← mA]; exact List.mem_map_of_mem ha
        have hb' : b.1 ∈ pB.map (·.1) := by rw [← mB]; exact List.mem_map_of_mem hb
        obtain ⟨a', ha1, ha2⟩ := List.mem_map.1 ha'
        obtain ⟨b', hb1, hb2⟩ := List.mem_map.1 hb'
        rw [← ha2, ← hb2]
        exact hAB a' ha1 b' hb1) (by
        intro x hx
        simp only [List.mem_append, List.mem_cons] at hx
        rcases hx with (h | rfl | h) | (h | rfl | h)
        · exact hle x (by rw [eA]; simp [h])
        · exact Nat.le_refl _
        · exact hle x (by rw [eA]; simp [h])
        · exact hle x (by rw [eB]; simp [h])
        · exact hlL
        · exact hle x (by rw [eB]; simp [h])) (by rw [cntL_append]; omega)
    refine ⟨pA', pB', i1.trans mA, i2.trans mB, i3, i4, ?_, Nat.le_trans i6 ?_⟩
    · rw [i5, eA, eB]
      simp only [kr_append, kr_cons]
      omega
    · rw [eA, eB]
      simp only [csP_append, csP_cons]
      obtain ⟨d, rfl⟩ := Nat.exists_eq_add_of_le hlL
      have : w * d ≤ v * d := Nat.mul_le_mul_right _ hwv
      rw [Nat.mul_add, Nat.mul_add]
      omega
/-- If few have the greatest length, one of them may be shorter. -/
theorem slack {q L : Nat} (hq : 2 ≤ q) {p : List (Nat × Nat)} (hlen : p.length % (q - 1) = 1 % (q - 1)) (hle : ∀ x ∈ p, x.2 ≤ L) (hk : kr q L p ≤ q ^ L) (h0 : 0 < cntL L p) (hc : cntL L p < q) (hL : 0 < L) : kr q L p + (q - 1) ≤ q ^ L := by
  have h1 := kr_mod (q := q) (M := L) hq (p := p)
  have h2 := pow_mod1 hq L
  have h3 := kr_modq hq hle
  rw [Nat.mod_eq_of_lt hc] at h3
  have h4 : q ^ L % q = 0 := by
    obtain ⟨k, rfl⟩ : ∃ k, L = k + 1 := ⟨L - 1, by omega⟩
    rw [Nat.pow_succ, Nat.mul_mod_left]
  have hne : kr q L p ≠ q ^ L := fun e => by rw [e, h4] at h3; omega
  have h5 : (q ^ L - kr q L p) % (q - 1) = 0 := by
    have : kr q L p % (q - 1) = q ^ L % (q - 1) := by rw [h1, h2, hlen]
    exact Nat.sub_mod_eq_zero_of_mod_eq this.symm
  obtain ⟨m, hm⟩ := Nat.dvd_of_mod_eq_zero h5
  have : 0 < m := by
    rcases Nat.eq_zero_or_pos m with h | h
    · rw [h] at hm; omega
    · exact h
  have : q - 1 ≤ (q - 1) * m := Nat.le_mul_of_pos_right _ this
  omega
/-- Lengths under which the q least weights have one length, the greatest, at no greater cost. -/
theorem all_down {q : Nat} (hq : 2 ≤ q) : ∀ (s L : Nat) (pA pB : List (Nat × Nat)), ((pA ++ pB).map (·.2)).sum + L = s → pA.length = q → (pA ++ pB).length % (q - 1) = 1 % (q - 1) → (∀ a ∈ pA, ∀ b ∈ pB, a.1 ≤ b.1) → (∀ x ∈ pA ++ pB, x.2 ≤ L) → kr q L (pA ++ pB) ≤ q ^ L →
    ∃ M pA' pB', 0 < M ∧ pA'.map (·.1) = pA.map (·.1) ∧ pB'.map (·.1) = pB.map (·.1) ∧ (∀ x ∈ pA', x.2 = M) ∧ (∀ x ∈ pB', x.2 ≤ M) ∧ kr q M (pA' ++ pB') ≤ q ^ M ∧ csP (pA' ++ pB') ≤ csP (pA ++ pB) := by
  intro s
  induction s using Nat.strongRecOn with
  | _ s ih =>
    intro L pA pB hs hA hlen hAB hle hk
    have hL : 0 < L := by
      rcases Nat.eq_zero_or_pos L with h | h
      · subst h
        have : kr q 0 (pA ++ pB) = (pA ++ pB).length := by
          have : ∀ p : List (Nat × Nat), kr q 0 p = p.length := fun p => by
            induction p with
            | nil => rfl
            | cons x p ih => rw [kr_cons, ih, Nat.zero_sub, Nat.pow_zero, List.length_cons, Nat.add_comm]
          exact this _
        rw [this, List.length_append, Nat.pow_zero] at hk
        omega
      · exact h
    by_cases hc : q ≤ cntL L (pA ++ pB)
    · obtain ⟨pA', pB', i1, i2, i3, i4, i5, i6⟩ := push_down (q := q) (L := L) _ pA pB rfl hAB hle (by omega)
      exact ⟨L, pA', pB', hL, i1, i2, i3, i4, by rw [i5]; exact hk, i6⟩
    · by_cases h0 : cntL L (pA ++ pB) = 0
      · have hle' : ∀ x ∈ pA ++ pB, x.2 ≤ L - 1 := fun x hx => by have := cntL_none h0 x hx; have := hle x hx; omega
        exact ih _ (by omega) (L - 1) pA pB rfl hA hlen hAB hle' (fit_at hq hle' ⟨L, hle, hk⟩)
      · have hsl := slack hq hlen hle hk (by omega) (by omega) hL
        obtain ⟨a, b, w, e⟩ := cntL_pos (L := L) (p := pA ++ pB) (by omega)
        -- the same weights, one length less
        have e2 : (a ++ (w, L - 1) :: b).map (·.1) = pA.map (·.1) ++ pB.map (·.1) := by rw [← List.map_append, e]; simp
        obtain ⟨rA, rB, f1, f2, f3⟩ := map_append_lift (fun x : Nat × Nat => x.1) _ _ _ e2
        have hkr : kr q L (rA ++ rB) = kr q L (pA ++ pB) + (q - 1) := by
          rw [← f1, e]
          simp only [kr_append, kr_cons]
          rw [show L - (L - 1) = 1 by omega, Nat.sub_self, Nat.pow_zero, Nat.pow_one]
          omega
        have hcs : csP (rA ++ rB) ≤ csP (pA ++ pB) := by
          rw [← f1, e]
          simp only [csP_append, csP_cons]
          have : w * (L - 1) ≤ w * L := Nat.mul_le_mul_left _ (by omega)
          omega
        have hsum : ((rA ++ rB).map (·.2)).sum + 1 = ((pA ++ pB).map (·.2)).sum := by
          rw [← f1, e]
          simp only [List.map_append, List.map_cons, List.sum_append_nat, List.sum_cons]
          omega
        have lA : rA.length = pA.length := by have := congrArg List.length f2; simpa using this
        have lB : rB.length = pB.length := by have := congrArg List.length f3; simpa using this
        obtain ⟨M, pA', pB', j0, j1, j2, j3, j4, j5, j6⟩ := ih _ (by omega) L rA rB rfl (by omega) (by rw [List.length_append, lA, lB, ← List.length_append]; exact hlen) (by
            intro x hx y hy
            have hx' : x.1 ∈ pA.map (·.1) := by rw [← f2]; exact List.mem_map_of_mem hx
            have hy' : y.1 ∈ pB.map (·.1) := by rw [← f3]; exact List.mem_map_of_mem hy
            obtain ⟨x', hx1, hx2⟩ := List.mem_map.1 hx'
            obtain ⟨y', hy1, hy2⟩ := List.mem_map.1 hy'
            rw [← hx2, ← hy2]
            exact hAB x' hx1 y' hy1) (by
            intro x hx
            rw [← f1] at hx
            simp only [List.mem_append, List.mem_cons] at hx
            rcases hx with h | rfl | h
            · exact hle x (by rw [e]; simp [h])
            · show L - 1 ≤ L; omega
            · exact hle x (by rw [e]; simp [h])) (by omega)
        exact ⟨M, pA', pB', j0, j1.trans f2, j2.trans f3, j3, j4, j5, Nat.le_trans j6 hcs⟩
/-- Merging the q least weights again and again, till one is left; the sums in all. -/
inductive Red (q : Nat) : List Nat → Nat → Prop
  | one (w : Nat) : Red q [w] 0
  | step {W A B : List Nat} {c : Nat} : W.Perm (A ++ B) → A.length = q → (∀ a ∈ A, ∀ b ∈ B, a ≤ b) → Red q (A.sum :: B) c → Red q W (A.sum + c)
theorem Red.mod {q : Nat} (hq : 2 ≤ q) {W : List Nat} {c : Nat} (h : Red q W c) : W.length % (q - 1) = 1 % (q - 1) := by
  induction h with
  | one w => rfl
  | step hp hA _ _ ih =>
    rw [hp.length_eq, List.length_append, hA]
    rw [List.length_cons] at ih
    rw [← ih, show ∀ n, q + n = (n + 1) + (q - 1) from fun n => by omega, Nat.add_mod_right]
theorem sum_same {M : Nat} : ∀ {p : List (Nat × Nat)}, (∀ x ∈ p, x.2 = M) → csP p = (p.map (·.1)).sum * M ∧ ∀ q, kr q M p = p.length
  | [], _ => by simp [csP, kr]
  | x :: p, h => by
    have hx := h x (List.mem_cons_self ..)
    obtain ⟨h1, h2⟩ := sum_same (fun y hy => h y (List.mem_cons_of_mem _ hy))
    refine ⟨by rw [csP_cons, h1, hx, List.map_cons, List.sum_cons, Nat.add_mul], fun q => by rw [kr_cons, h2, hx, Nat.sub_self, Nat.pow_zero, List.length_cons, Nat.add_comm]⟩
/-- No lengths that fit cost less. -/
theorem Red.least {q : Nat} (hq : 2 ≤ q) {W : List Nat} {c : Nat} (h : Red q W c) : ∀ p : List (Nat × Nat), (p.map (·.1)).Perm W → Fit q p → c ≤ csP p := by
  induction h with
  | one w => intro p _ _; exact Nat.zero_le _
  | @step W A B c hp hA hAB hr ih =>
    intro p hpW hfit
    obtain ⟨p', g1, g2⟩ := perm_lift (fun x : Nat × Nat => x.1) (hpW.trans hp) p rfl
    obtain ⟨pA, pB, e1, e2, e3⟩ := map_append_lift (fun x : Nat × Nat => x.1) A B p' g2
    obtain ⟨L, hL1, hL2⟩ := hfit
    have hlen := (Red.step hp hA hAB hr).mod hq
    obtain ⟨M, pA', pB', j0, j1, j2, j3, j4, j5, j6⟩ := all_down hq _ L pA pB rfl (by rw [← hA, ← e2, List.length_map]) (by
        rw [← e1, g1.length_eq]
        have := hpW.length_eq
        rw [List.length_map] at this
        rw [this]; exact hlen) (by
        intro a ha b hb
        exact hAB a.1 (by rw [← e2]; exact List.mem_map_of_mem ha) b.1 (by rw [← e3]; exact List.mem_map_of_mem hb)) (by
        intro x hx
        rw [← e1] at hx
        exact hL1 x (g1.mem_iff.1 hx)) (by rw [← e1, kr_perm g1]; exact hL2)
    obtain ⟨s1, s2⟩ := sum_same j3
    have mA : pA'.map (·.1) = A := j1.trans e2
    have lA : pA'.length = q := by rw [← hA, ← mA, List.length_map]
    have key := ih ((A.sum, M - 1) :: pB') (by rw [List.map_cons, j2.trans e3]) ⟨M, by
        intro x hx
        rcases List.mem_cons.1 hx with rfl | hx
        · show M - 1 ≤ M; omega
        · exact j4 x hx, by
        rw [kr_cons, show M - (M - 1) = 1 by omega, Nat.pow_one]
        rw [kr_append, s2, lA] at j5
        exact j5⟩
    rw [csP_cons] at key
    rw [csP_append, s1, mA] at j6
    have hcs : csP p = csP (pA ++ pB) := by rw [← e1]; exact (csP_perm g1).symm
    rw [hcs]
    obtain ⟨m, rfl⟩ : ∃ m, M = m + 1 := ⟨M - 1, by omega⟩
    simp only [Nat.add_sub_cancel, Nat.mul_add, Nat.mul_one] at key j6
    omega
/-- There are lengths that fit and cost so much. -/
theorem Red.made {q : Nat} (hq : 2 ≤ q) {W : List Nat} {c : Nat} (h : Red q W c) : ∃ p : List (Nat × Nat), p.map (·.1) = W ∧ Fit q p ∧ csP p = c := by
  induction h with
  | one w => exact ⟨[(w, 0)], rfl, ⟨0, by simp, by simp [kr]⟩, by simp [csP]⟩
  | @step W A B c hp hA hAB hr ih =>
    obtain ⟨p, h1, ⟨L, h2, h3⟩, h4⟩ := ih
    cases p with
    | nil => cases h1
    | cons x pB =>
      simp only [List.map_cons, List.cons.injEq] at h1
      have hx := h2 x (List.mem_cons_self ..)
      have e1 : ∀ a ∈ A.map (fun w => (w, x.2 + 1)), a.2 = x.2 + 1 := fun a ha => by obtain ⟨w, -, rfl⟩ := List.mem_map.1 ha; rfl
      obtain ⟨s1, s2⟩ := sum_same e1
      have mA : (A.map (fun w => (w, x.2 + 1))).map (·.1) = A := by rw [List.map_map]; simp [Function.comp_def]
      have g : ((A.map (fun w => (w, x.2 + 1)) ++ pB).map (·.1)) = A ++ B := by rw [List.map_append, mA, h1.2]
      obtain ⟨p', g1, g2⟩ := perm_lift (fun x : Nat × Nat => x.1) hp.symm _ g
      have hle : ∀ y ∈ A.map (fun w => (w, x.2 + 1)) ++ pB, y.2 ≤ L + 1 := fun y hy => by
        rcases List.mem_append.1 hy with hy | hy
        · rw [e1 y hy]; omega
        · have := h2 y (List.mem_cons_of_mem _ hy); omega
      refine ⟨p', g2, ⟨L + 1, fun y hy => hle y (g1.mem_iff.1 hy), ?_⟩, ?_⟩
      · rw [kr_perm g1, kr_append, kr_up (L := x.2 + 1) (by omega) (fun y hy => by rw [e1 y hy]; exact Nat.le_refl _), s2, List.length_map, hA, kr_up (L := L) (by omega) (fun y hy => h2 y (List.mem_cons_of_mem _ hy))]
        rw [kr_cons] at h3
        rw [show L + 1 - L = 1 by omega, Nat.pow_one, Nat.pow_succ, Nat.mul_comm (q ^ L), show L + 1 - (x.2 + 1) = L - x.2 by omega, Nat.mul_comm _ q, ← Nat.mul_add]
        exact Nat.mul_le_mul_left _ h3
      · rw [csP_perm g1, csP_append, s1, mA, ← h4, csP_cons, ← h1.1, Nat.mul_add, Nat.mul_one]
        omega
/-- The sums in all depend on the weights alone, not on their order. -/
theorem Red.uniq {q : Nat} (hq : 2 ≤ q) {W W' : List Nat} {c c' : Nat} (h : Red q W c) (h' : Red q W' c') (hp : W.Perm W') : c = c' := by
  obtain ⟨p, a1, a2, a3⟩ := h.made hq
  obtain ⟨p', b1, b2, b3⟩ := h'.made hq
  have k1 := h'.least hq p (by rw [a1]; exact hp) a2
  have k2 := h.least hq p' (by rw [b1]; exact hp.symm) b2
  omega
/-- Lengths of the weights themselves: what stands beside them weighs nothing. -/
theorem Red.best {q t : Nat} (hq : 2 ≤ q) {W : List Nat} {c : Nat} (h : Red q (W ++ List.replicate t 0) c) (ht : t < q - 1) {p : List (Nat × Nat)} (hp : (p.map (·.1)).Perm W) (hf : Fit q p) : c ≤ csP p := by
  obtain ⟨L, h1, h2⟩ := hf
  have hr : ∀ x ∈ List.replicate t ((0 : Nat), L), x.2 = L := fun x hx => by rw [(List.mem_replicate.1 hx).2]
  obtain ⟨s1, s2⟩ := sum_same hr
  have hm := h.mod hq
  rw [List.length_append, List.length_replicate] at hm
  have hl : p.length = W.length := by have := hp.length_eq; rwa [List.length_map] at this
  have hk1 := kr_mod (q := q) (M := L) hq (p := p)
  have hk2 := pow_mod1 hq L
  have key : kr q L p + t ≤ q ^ L := by
    have e : (kr q L p + t) % (q - 1) = q ^ L % (q - 1) := by rw [Nat.add_mod, hk1, hl, ← Nat.add_mod, hm, hk2]
    rcases Nat.lt_or_ge (q ^ L) (kr q L p + t) with h3 | h3
    · obtain ⟨d, hd⟩ := Nat.exists_eq_add_of_lt h3
      have : (kr q L p + t - q ^ L) % (q - 1) = 0 := Nat.sub_mod_eq_zero_of_mod_eq e
      rw [Nat.mod_eq_of_lt (by omega)] at this
      omega
    · exact h3
  have := h.least hq (p ++ List.replicate t (0, L)) (by
      rw [List.map_append, List.map_replicate]
      exact hp.append_right _) ⟨L, fun x hx => by
      rcases List.mem_append.1 hx with hx | hx
      · exact h1 x hx
      · rw [hr x hx]; exact Nat.le_refl _, by rw [kr_append, s2, List.length_replicate]; exact key⟩
  rw [csP_append, s1, List.map_replicate] at this
  simpa using this
end Go.Proofs.Gv
