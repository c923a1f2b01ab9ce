/- Texts joined. -/
import Derived.Test.YtfhncfphphieiaaGreatLim3P
import Derived.LoopN
set_option maxHeartbeats 1600000
set_option maxRecDepth 100000
set_option linter.unusedSimpArgs false
set_option linter.unusedVariables false
namespace Go.Proofs.Gv
theorem perm_lift {α β : Type} (f : α → β) {k l : List β} (h : k.Perm l) : ∀ p : List α, p.map f = k → ∃ p' : List α, p'.Perm p ∧ p'.map f = l := by
 induction h with
 | nil => intro p hp; exact ⟨p, .refl _, hp⟩
 | cons x _ ih =>
   intro p hp
   cases p with
   | nil => cases hp
   | cons a p =>
     simp only [List.map_cons, List.cons.injEq] at hp
     obtain ⟨p', h1, h2⟩ := ih p hp.2
     exact ⟨a :: p', h1.cons a, by rw [List.map_cons, h2, hp.1]⟩
 | swap x y l =>
   intro p hp
   match p, hp with
   | a :: b :: p, hp =>
     simp only [List.map_cons, List.cons.injEq] at hp
     exact ⟨b :: a :: p, .swap _ _ _, by simp [hp.1, hp.2.1, hp.2.2]⟩
 | trans _ _ ih1 ih2 =>
   intro p hp
   obtain ⟨p1, h1, h2⟩ := ih1 p hp
   obtain ⟨p2, h3, h4⟩ := ih2 p1 h2
   exact ⟨p2, h3.trans h1, h4⟩
theorem map_append_lift {α β : Type} (f : α → β) : ∀ (A B : List β) (p : List α), p.map f = A ++ B → ∃ pA pB, p = pA ++ pB ∧ pA.map f = A ∧ pB.map f = B
 | [], B, p, h => ⟨[], p, rfl, rfl, h⟩
 | a :: A, B, p, h => by
   cases p with
   | nil => cases h
   | cons x p =>
     simp only [List.map_cons, List.cons_append, List.cons.injEq] at h
     obtain ⟨pA, pB, h1, h2, h3⟩ := map_append_lift f A B p h.2
     exact ⟨x :: pA, pB, by rw [h1]; rfl, by rw [List.map_cons, h2, h.1], h3⟩
def kr (q M : Nat) (p : List (Nat × Nat)) : Nat := (p.map fun x => q ^ (M - x.2)).sum
def csP (p : List (Nat × Nat)) : Nat := (p.map fun x => x.1 * x.2).sum
theorem kr_append (q M : Nat) (a b : List (Nat × Nat)) : kr q M (a ++ b) = kr q M a + kr q M b := by simp [kr]
theorem csP_append (a b : List (Nat × Nat)) : csP (a ++ b) = csP a + csP b := by simp [csP]
theorem kr_cons (q M : Nat) (x : Nat × Nat) (b : List (Nat × Nat)) : kr q M (x :: b) = q ^ (M - x.2) + kr q M b := by simp [kr]
theorem csP_cons (x : Nat × Nat) (b : List (Nat × Nat)) : csP (x :: b) = x.1 * x.2 + csP b := by simp [csP]
theorem kr_perm {q M : Nat} {a b : List (Nat × Nat)} (h : a.Perm b) : kr q M a = kr q M b := (h.map _).sum_nat
theorem csP_perm {a b : List (Nat × Nat)} (h : a.Perm b) : csP a = csP b := (h.map _).sum_nat
theorem kr_up {q L M : Nat} (hLM : L ≤ M) : ∀ {p : List (Nat × Nat)}, (∀ x ∈ p, x.2 ≤ L) → kr q M p = q ^ (M - L) * kr q L p
 | [], _ => by simp [kr]
 | x :: p, h => by
   have hx := h x (List.mem_cons_self ..)
   rw [kr_cons, kr_cons, kr_up hLM (fun y hy => h y (List.mem_cons_of_mem _ hy)), Nat.mul_add, ← Nat.pow_add]
   congr 2
   omega
def Fit (q : Nat) (p : List (Nat × Nat)) : Prop := ∃ L, (∀ x ∈ p, x.2 ≤ L) ∧ kr q L p ≤ q ^ L
theorem fit_at {q : Nat} (hq : 2 ≤ q) {p : List (Nat × Nat)} {M : Nat} (hM : ∀ x ∈ p, x.2 ≤ M) (h : Fit q p) : kr q M p ≤ q ^ M := by
 obtain ⟨L, h1, h2⟩ := h
 rcases Nat.le_total L M with h3 | h3
 ·rw [kr_up h3 h1]
  calc q ^ (M - L) * kr q L p ≤ q ^ (M - L) * q ^ L := Nat.mul_le_mul_left _ h2
   _ = q ^ M := by rw [← Nat.pow_add]; congr 1; omega
 ·rw [kr_up h3 hM] at h2
  have e : q ^ L = q ^ (L - M) * q ^ M := by rw [← Nat.pow_add]; congr 1; omega
  rw [e] at h2
  exact Nat.le_of_mul_le_mul_left h2 (Nat.pow_pos (by omega))
theorem kr_mod {q M : Nat} (hq : 2 ≤ q) : ∀ {p : List (Nat × Nat)}, kr q M p % (q - 1) = p.length % (q - 1)
 | [] => by simp [kr]
 | x :: p => by
   have hp : ∀ k, q ^ k % (q - 1) = 1 % (q - 1) := fun k => by
    rw [Nat.pow_mod]
    have : q % (q - 1) = 1 % (q - 1) := by
     obtain ⟨r, rfl⟩ : ∃ r, q = 1 + r := ⟨q - 1, by omega⟩
     rw [show 1 + r - 1 = r by omega, Nat.add_mod_right]
    rw [this, ← Nat.pow_mod, Nat.one_pow]
   rw [kr_cons, Nat.add_mod, hp, kr_mod hq, ← Nat.add_mod, List.length_cons, Nat.add_comm]
theorem pow_mod1 {q : Nat} (hq : 2 ≤ q) (k : Nat) : q ^ k % (q - 1) = 1 % (q - 1) := by
 have := kr_mod (q := q) (M := k) hq (p := [(0, 0)])
 simpa [kr] using this
def cntL (L : Nat) (p : List (Nat × Nat)) : Nat := (p.filter fun x => x.2 == L).length
theorem cntL_append (L : Nat) (a b : List (Nat × Nat)) : cntL L (a ++ b) = cntL L a + cntL L b := by simp [cntL]
theorem kr_modq {q L : Nat} (hq : 2 ≤ q) : ∀ {p : List (Nat × Nat)}, (∀ x ∈ p, x.2 ≤ L) → kr q L p % q = cntL L p % q
 | [], _ => by simp [kr, cntL]
 | x :: p, h => by
   have hx := h x (List.mem_cons_self ..)
   have ih := kr_modq hq (fun y hy => h y (List.mem_cons_of_mem _ hy))
   rw [kr_cons]
   by_cases he : x.2 = L
   ·rw [he, Nat.sub_self, Nat.pow_zero]
    have : cntL L (x :: p) = 1 + cntL L p := by simp [cntL, List.filter_cons, he]; omega
    rw [this, Nat.add_mod, ih, ← Nat.add_mod]
   ·have : cntL L (x :: p) = cntL L p := by simp [cntL, List.filter_cons, he]
    rw [this, ← ih]
    have e : q ^ (L - x.2) = q * q ^ (L - x.2 - 1) := by rw [← Nat.pow_succ']; congr 1; omega
    rw [e, Nat.mul_add_mod]
theorem cntL_le (L : Nat) (p : List (Nat × Nat)) : cntL L p ≤ p.length := List.length_filter_le ..
theorem cntL_all {L : Nat} : ∀ {p : List (Nat × Nat)}, cntL L p = p.length → ∀ x ∈ p, x.2 = L := by
 intro p h x hx
 have := List.length_filter_eq_length_iff.1 h x hx
 simpa using this
theorem cntL_none {L : Nat} {p : List (Nat × Nat)} (h : cntL L p = 0) : ∀ x ∈ p, x.2 ≠ L := by
 intro x hx he
 have : x ∈ p.filter fun x => x.2 == L := List.mem_filter.2 ⟨hx, by simpa using he⟩
 unfold cntL at h
 rw [List.length_eq_zero_iff.1 h] at this
 cases this
theorem cntL_pos {L : Nat} {p : List (Nat × Nat)} (h : 0 < cntL L p) : ∃ a b w, p = a ++ (w, L) :: b := by
 obtain ⟨x, hx⟩ := List.exists_mem_of_length_pos h
 obtain ⟨h1, h2⟩ := List.mem_filter.1 hx
 obtain ⟨a, b, e⟩ := List.append_of_mem h1
 refine ⟨a, b, x.1, ?_⟩
 have h3 : x.2 = L := by simpa using h2
 rw [e, ← h3]
theorem cntL_lt {L : Nat} {p : List (Nat × Nat)} (h : cntL L p < p.length) : ∃ a b w l, p = a ++ (w, l) :: b ∧ l ≠ L := by
 have : ¬ ∀ x ∈ p, (x.2 == L) = true := fun hall => by
  have := List.length_filter_eq_length_iff.2 hall
  unfold cntL at h
  omega
 have h2 : ∃ x ∈ p, (x.2 == L) ≠ true := by
  apply Classical.byContradiction
  intro hn
  exact this fun x hx => Classical.byContradiction fun hne => hn ⟨x, hx, hne⟩
 obtain ⟨x, hx, hne⟩ := h2
 obtain ⟨a, b, e⟩ := List.append_of_mem hx
 exact ⟨a, b, x.1, x.2, e, by simpa using hne⟩
theorem push_down {q L : Nat} : ∀ (k : Nat) (pA pB : List (Nat × Nat)), pA.length - cntL L pA = k → (∀ a ∈ pA, ∀ b ∈ pB, a.1 ≤ b.1) → (∀ x ∈ pA ++ pB, x.2 ≤ L) → pA.length ≤ cntL L (pA ++ pB) →
  ∃ pA' pB', pA'.map (·.1) = pA.map (·.1) ∧ pB'.map (·.1) = pB.map (·.1) ∧ (∀ x ∈ pA', x.2 = L) ∧ (∀ x ∈ pB', x.2 ≤ L) ∧ kr q L (pA' ++ pB') = kr q L (pA ++ pB) ∧ csP (pA' ++ pB') ≤ csP (pA ++ pB) := by
 intro k
 induction k with
 | zero =>
   intro pA pB hk _ hle _
   have := cntL_le L pA
   exact ⟨pA, pB, rfl, rfl, cntL_all (by omega), fun x hx => hle x (List.mem_append_right _ hx), rfl, Nat.le_refl _⟩
 | succ k ih =>
   intro pA pB hk hAB hle hc
   have h1 := cntL_le L pA
   obtain ⟨a1, a2, w, l, eA, hl⟩ := cntL_lt (L := L) (p := pA) (by omega)
   rw [cntL_append] at hc
   obtain ⟨b1, b2, v, eB⟩ := cntL_pos (L := L) (p := pB) (by omega)
   have hlL : l ≤ L := hle (w, l) (by rw [eA]; simp)
   have hwv : w ≤ v := hAB (w, l) (by rw [eA]; simp) (v, L) (by rw [eB]; simp)
   have cA : cntL L pA = cntL L a1 + cntL L a2 := by rw [eA, cntL_append]; simp [cntL, List.filter_cons, hl]
   have cB : cntL L pB = cntL L b1 + cntL L b2 + 1 := by rw [eB, cntL_append]; simp [cntL, List.filter_cons]; omega
   have cA' : cntL L (a1 ++ (w, L) :: a2) = cntL L pA + 1 := by rw [cntL_append, cA]; simp [cntL, List.filter_cons]; omega
   have cB' : cntL L (b1 ++ (v, l) :: b2) = cntL L b1 + cntL L b2 := by rw [cntL_append]; simp [cntL, List.filter_cons, hl]
   have lA : (a1 ++ (w, L) :: a2).length = pA.length := by rw [eA]; simp
   have mA : (a1 ++ (w, L) :: a2).map (·.1) = pA.map (·.1) := by rw [eA]; simp
   have mB : (b1 ++ (v, l) :: b2).map (·.1) = pB.map (·.1) := by rw [eB]; simp
   obtain ⟨pA', pB', i1, i2, i3, i4, i5, i6⟩ := ih (a1 ++ (w, L) :: a2) (b1 ++ (v, l) :: b2) (by omega) (by
     intro a ha b hb
     have ha' : a.1 ∈ pA.map (·.1) := by rw [← mA]; exact List.mem_map_of_mem ha
     have hb' : b.1 ∈ pB.map (·.1) := by rw [← mB]; exact List.mem_map_of_mem hb
     obtain ⟨a', ha1, ha2⟩ := List.mem_map.1 ha'
     obtain ⟨b', hb1, hb2⟩ := List.mem_map.1 hb'
     rw [← ha2, ← hb2]
     exact hAB a' ha1 b' hb1) (by
     intro x hx
     simp only [List.mem_append, List.mem_cons] at hx
     rcases hx with (h | rfl | h) | (h | rfl | h)
     ·exact hle x (by rw [eA]; simp [h])
     ·exact Nat.le_refl _
     ·exact hle x (by rw [eA]; simp [h])
     ·exact hle x (by rw [eB]; simp [h])
     ·exact hlL
     ·exact hle x (by rw [eB]; simp [h])) (by rw [cntL_append]; omega)
   refine ⟨pA', pB', i1.trans mA, i2.trans mB, i3, i4, ?_, Nat.le_trans i6 ?_⟩
   ·rw [i5, eA, eB]
    simp only [kr_append, kr_cons]
    omega
   ·rw [eA, eB]
    simp only [csP_append, csP_cons]
    obtain ⟨d, rfl⟩ := Nat.exists_eq_add_of_le hlL
    have : w * d ≤ v * d := Nat.mul_le_mul_right _ hwv
    rw [Nat.mul_add, Nat.mul_add]
    omega
theorem slack {q L : Nat} (hq : 2 ≤ q) {p : List (Nat × Nat)} (hlen : p.length % (q - 1) = 1 % (q - 1)) (hle : ∀ x ∈ p, x.2 ≤ L) (hk : kr q L p ≤ q ^ L) (h0 : 0 < cntL L p) (hc : cntL L p < q) (hL : 0 < L) : kr q L p + (q - 1) ≤ q ^ L := by
 have h1 := kr_mod (q := q) (M := L) hq (p := p)
 have h2 := pow_mod1 hq L
 have h3 := kr_modq hq hle
 rw [Nat.mod_eq_of_lt hc] at h3
 have h4 : q ^ L % q = 0 := by
  obtain ⟨k, rfl⟩ : ∃ k, L = k + 1 := ⟨L - 1, by omega⟩
  rw [Nat.pow_succ, Nat.mul_mod_left]
 have hne : kr q L p ≠ q ^ L := fun e => by rw [e, h4] at h3; omega
 have h5 : (q ^ L - kr q L p) % (q - 1) = 0 := by
  have : kr q L p % (q - 1) = q ^ L % (q - 1) := by rw [h1, h2, hlen]
  exact Nat.sub_mod_eq_zero_of_mod_eq this.symm
 obtain ⟨m, hm⟩ := Nat.dvd_of_mod_eq_zero h5
 have : 0 < m := by
  rcases Nat.eq_zero_or_pos m with h | h
  ·rw [h] at hm; omega
  ·exact h
 have : q - 1 ≤ (q - 1) * m := Nat.le_mul_of_pos_right _ this
 omega
theorem all_down {q : Nat} (hq : 2 ≤ q) : ∀ (s L : Nat) (pA pB : List (Nat × Nat)), ((pA ++ pB).map (·.2)).sum + L = s → pA.length = q → (pA ++ pB).length % (q - 1) = 1 % (q - 1) → (∀ a ∈ pA, ∀ b ∈ pB, a.1 ≤ b.1) → (∀ x ∈ pA ++ pB, x.2 ≤ L) → kr q L (pA ++ pB) ≤ q ^ L →
  ∃ M pA' pB', 0 < M ∧ pA'.map (·.1) = pA.map (·.1) ∧ pB'.map (·.1) = pB.map (·.1) ∧ (∀ x ∈ pA', x.2 = M) ∧ (∀ x ∈ pB', x.2 ≤ M) ∧ kr q M (pA' ++ pB') ≤ q ^ M ∧ csP (pA' ++ pB') ≤ csP (pA ++ pB) := by
 intro s
 induction s using Nat.strongRecOn with
 | _ s ih =>
   intro L pA pB hs hA hlen hAB hle hk
   have hL : 0 < L := by
    rcases Nat.eq_zero_or_pos L with h | h
    ·subst h
     have : kr q 0 (pA ++ pB) = (pA ++ pB).length := by
      have : ∀ p : List (Nat × Nat), kr q 0 p = p.length := fun p => by
       induction p with
       | nil => rfl
       | cons x p ih => rw [kr_cons, ih, Nat.zero_sub, Nat.pow_zero, List.length_cons, Nat.add_comm]
      exact this _
     rw [this, List.length_append, Nat.pow_zero] at hk
     omega
    ·exact h
   by_cases hc : q ≤ cntL L (pA ++ pB)
   ·obtain ⟨pA', pB', i1, i2, i3, i4, i5, i6⟩ := push_down (q := q) (L := L) _ pA pB rfl hAB hle (by omega)
    exact ⟨L, pA', pB', hL, i1, i2, i3, i4, by rw [i5]; exact hk, i6⟩
   ·by_cases h0 : cntL L (pA ++ pB) = 0
    ·have hle' : ∀ x ∈ pA ++ pB, x.2 ≤ L - 1 := fun x hx => by have := cntL_none h0 x hx; have := hle x hx; omega
     exact ih _ (by omega) (L - 1) pA pB rfl hA hlen hAB hle' (fit_at hq hle' ⟨L, hle, hk⟩)
    ·have hsl := slack hq hlen hle hk (by omega) (by omega) hL
     obtain ⟨a, b, w, e⟩ := cntL_pos (L := L) (p := pA ++ pB) (by omega)
     -- the same weights, one length less
     have e2 : (a ++ (w, L - 1) :: b).map (·.1) = pA.map (·.1) ++ pB.map (·.1) := by rw [← List.map_append, e]; simp
     obtain ⟨rA, rB, f1, f2, f3⟩ := map_append_lift (fun x : Nat × Nat => x.1) _ _ _ e2
     have hkr : kr q L (rA ++ rB) = kr q L (pA ++ pB) + (q - 1) := by
      rw [← f1, e]
      simp only [kr_append, kr_cons]
      rw [show L - (L - 1) = 1 by omega, Nat.sub_self, Nat.pow_zero, Nat.pow_one]
      omega
     have hcs : csP (rA ++ rB) ≤ csP (pA ++ pB) := by
      rw [← f1, e]
      simp only [csP_append, csP_cons]
      have : w * (L - 1) ≤ w * L := Nat.mul_le_mul_left _ (by omega)
      omega
     have hsum : ((rA ++ rB).map (·.2)).sum + 1 = ((pA ++ pB).map (·.2)).sum := by
      rw [← f1, e]
      simp only [List.map_append, List.map_cons, List.sum_append_nat, List.sum_cons]
      omega
     have lA : rA.length = pA.length := by have := congrArg List.length f2; simpa using this
     have lB : rB.length = pB.length := by have := congrArg List.length f3; simpa using this
     obtain ⟨M, pA', pB', j0, j1, j2, j3, j4, j5, j6⟩ := ih _ (by omega) L rA rB rfl (by omega) (by rw [List.length_append, lA, lB, ← List.length_append]; exact hlen) (by
       intro x hx y hy
       have hx' : x.1 ∈ pA.map (·.1) := by rw [← f2]; exact List.mem_map_of_mem hx
       have hy' : y.1 ∈ pB.map (·.1) := by rw [← f3]; exact List.mem_map_of_mem hy
       obtain ⟨x', hx1, hx2⟩ := List.mem_map.1 hx'
       obtain ⟨y', hy1, hy2⟩ := List.mem_map.1 hy'
       rw [← hx2, ← hy2]
       exact hAB x' hx1 y' hy1) (by
       intro x hx
       rw [← f1] at hx
       simp only [List.mem_append, List.mem_cons] at hx
       rcases hx with h | rfl | h
       ·exact hle x (by rw [e]; simp [h])
       ·show L - 1 ≤ L; omega
       ·exact hle x (by rw [e]; simp [h])) (by omega)
     exact ⟨M, pA', pB', j0, j1.trans f2, j2.trans f3, j3, j4, j5, Nat.le_trans j6 hcs⟩
inductive Red (q : Nat) : List Nat → Nat → Prop
 | one (w : Nat) : Red q [w] 0
 | step {W A B : List Nat} {c : Nat} : W.Perm (A ++ B) → A.length = q → (∀ a ∈ A, ∀ b ∈ B, a ≤ b) → Red q (A.sum :: B) c → Red q W (A.sum + c)
theorem Red.mod {q : Nat} (hq : 2 ≤ q) {W : List Nat} {c : Nat} (h : Red q W c) : W.length % (q - 1) = 1 % (q - 1) := by
 induction h with
 | one w => rfl
 | step hp hA _ _ ih =>
   rw [hp.length_eq, List.length_append, hA]
   rw [List.length_cons] at ih
   rw [← ih, show ∀ n, q + n = (n + 1) + (q - 1) from fun n => by omega, Nat.add_mod_right]
theorem sum_same {M : Nat} : ∀ {p : List (Nat × Nat)}, (∀ x ∈ p, x.2 = M) → csP p = (p.map (·.1)).sum * M ∧ ∀ q, kr q M p = p.length
 | [], _ => by simp [csP, kr]
 | x :: p, h => by
   have hx := h x (List.mem_cons_self ..)
   obtain ⟨h1, h2⟩ := sum_same (fun y hy => h y (List.mem_cons_of_mem _ hy))
   refine ⟨by rw [csP_cons, h1, hx, List.map_cons, List.sum_cons, Nat.add_mul], fun q => by rw [kr_cons, h2, hx, Nat.sub_self, Nat.pow_zero, List.length_cons, Nat.add_comm]⟩
theorem Red.least {q : Nat} (hq : 2 ≤ q) {W : List Nat} {c : Nat} (h : Red q W c) : ∀ p : List (Nat × Nat), (p.map (·.1)).Perm W → Fit q p → c ≤ csP p := by
 induction h with
 | one w => intro p _ _; exact Nat.zero_le _
 | @step W A B c hp hA hAB hr ih =>
   intro p hpW hfit
   obtain ⟨p', g1, g2⟩ := perm_lift (fun x : Nat × Nat => x.1) (hpW.trans hp) p rfl
   obtain ⟨pA, pB, e1, e2, e3⟩ := map_append_lift (fun x : Nat × Nat => x.1) A B p' g2
   obtain ⟨L, hL1, hL2⟩ := hfit
   have hlen := (Red.step hp hA hAB hr).mod hq
   obtain ⟨M, pA', pB', j0, j1, j2, j3, j4, j5, j6⟩ := all_down hq _ L pA pB rfl (by rw [← hA, ← e2, List.length_map]) (by
     rw [← e1, g1.length_eq]
     have := hpW.length_eq
     rw [List.length_map] at this
     rw [this]; exact hlen) (by
     intro a ha b hb
     exact hAB a.1 (by rw [← e2]; exact List.mem_map_of_mem ha) b.1 (by rw [← e3]; exact List.mem_map_of_mem hb)) (by
     intro x hx
     rw [← e1] at hx
     exact hL1 x (g1.mem_iff.1 hx)) (by rw [← e1, kr_perm g1]; exact hL2)
   obtain ⟨s1, s2⟩ := sum_same j3
   have mA : pA'.map (·.1) = A := j1.trans e2
   have lA : pA'.length = q := by rw [← hA, ← mA, List.length_map]
   have key := ih ((A.sum, M - 1) :: pB') (by rw [List.map_cons, j2.trans e3]) ⟨M, by
     intro x hx
     rcases List.mem_cons.1 hx with rfl | hx
     ·show M - 1 ≤ M; omega
     ·exact j4 x hx, by
     rw [kr_cons, show M - (M - 1) = 1 by omega, Nat.pow_one]
     rw [kr_append, s2, lA] at j5
     exact j5⟩
   rw [csP_cons] at key
   rw [csP_append, s1, mA] at j6
   have hcs : csP p = csP (pA ++ pB) := by rw [← e1]; exact (csP_perm g1).symm
   rw [hcs]
   obtain ⟨m, rfl⟩ : ∃ m, M = m + 1 := ⟨M - 1, by omega⟩
   simp only [Nat.add_sub_cancel, Nat.mul_add, Nat.mul_one] at key j6
   omega
theorem Red.made {q : Nat} (hq : 2 ≤ q) {W : List Nat} {c : Nat} (h : Red q W c) : ∃ p : List (Nat × Nat), p.map (·.1) = W ∧ Fit q p ∧ csP p = c := by
 induction h with
 | one w => exact ⟨[(w, 0)], rfl, ⟨0, by simp, by simp [kr]⟩, by simp [csP]⟩
 | @step W A B c hp hA hAB hr ih =>
   obtain ⟨p, h1, ⟨L, h2, h3⟩, h4⟩ := ih
   cases p with
   | nil => cases h1
   | cons x pB =>
     simp only [List.map_cons, List.cons.injEq] at h1
     have hx := h2 x (List.mem_cons_self ..)
     have e1 : ∀ a ∈ A.map (fun w => (w, x.2 + 1)), a.2 = x.2 + 1 := fun a ha => by obtain ⟨w, -, rfl⟩ := List.mem_map.1 ha; rfl
     obtain ⟨s1, s2⟩ := sum_same e1
     have mA : (A.map (fun w => (w, x.2 + 1))).map (·.1) = A := by rw [List.map_map]; simp [Function.comp_def]
     have g : ((A.map (fun w => (w, x.2 + 1)) ++ pB).map (·.1)) = A ++ B := by rw [List.map_append, mA, h1.2]
     obtain ⟨p', g1, g2⟩ := perm_lift (fun x : Nat × Nat => x.1) hp.symm _ g
     have hle : ∀ y ∈ A.map (fun w => (w, x.2 + 1)) ++ pB, y.2 ≤ L + 1 := fun y hy => by
      rcases List.mem_append.1 hy with hy | hy
      ·rw [e1 y hy]; omega
      ·have := h2 y (List.mem_cons_of_mem _ hy); omega
     refine ⟨p', g2, ⟨L + 1, fun y hy => hle y (g1.mem_iff.1 hy), ?_⟩, ?_⟩
     ·rw [kr_perm g1, kr_append, kr_up (L := x.2 + 1) (by omega) (fun y hy => by rw [e1 y hy]; exact Nat.le_refl _), s2, List.length_map, hA, kr_up (L := L) (by omega) (fun y hy => h2 y (List.mem_cons_of_mem _ hy))]
      rw [kr_cons] at h3
      rw [show L + 1 - L = 1 by omega, Nat.pow_one, Nat.pow_succ, Nat.mul_comm (q ^ L), show L + 1 - (x.2 + 1) = L - x.2 by omega, Nat.mul_comm _ q, ← Nat.mul_add]
      exact Nat.mul_le_mul_left _ h3
     ·rw [csP_perm g1, csP_append, s1, mA, ← h4, csP_cons, ← h1.1, Nat.mul_add, Nat.mul_one]
      omega
theorem Red.uniq {q : Nat} (hq : 2 ≤ q) {W W' : List Nat} {c c' : Nat} (h : Red q W c) (h' : Red q W' c') (hp : W.Perm W') : c = c' := by
 obtain ⟨p, a1, a2, a3⟩ := h.made hq
 obtain ⟨p', b1, b2, b3⟩ := h'.made hq
 have k1 := h'.least hq p (by rw [a1]; exact hp) a2
 have k2 := h.least hq p' (by rw [b1]; exact hp.symm) b2
 omega
theorem Red.best {q t : Nat} (hq : 2 ≤ q) {W : List Nat} {c : Nat} (h : Red q (W ++ List.replicate t 0) c) (ht : t < q - 1) {p : List (Nat × Nat)} (hp : (p.map (·.1)).Perm W) (hf : Fit q p) : c ≤ csP p := by
 obtain ⟨L, h1, h2⟩ := hf
 have hr : ∀ x ∈ List.replicate t ((0 : Nat), L), x.2 = L := fun x hx => by rw [(List.mem_replicate.1 hx).2]
 obtain ⟨s1, s2⟩ := sum_same hr
 have hm := h.mod hq
 rw [List.length_append, List.length_replicate] at hm
 have hl : p.length = W.length := by have := hp.length_eq; rwa [List.length_map] at this
 have hk1 := kr_mod (q := q) (M := L) hq (p := p)
 have hk2 := pow_mod1 hq L
 have key : kr q L p + t ≤ q ^ L := by
  have e : (kr q L p + t) % (q - 1) = q ^ L % (q - 1) := by rw [Nat.add_mod, hk1, hl, ← Nat.add_mod, hm, hk2]
  rcases Nat.lt_or_ge (q ^ L) (kr q L p + t) with h3 | h3
  ·obtain ⟨d, hd⟩ := Nat.exists_eq_add_of_lt h3
   have : (kr q L p + t - q ^ L) % (q - 1) = 0 := Nat.sub_mod_eq_zero_of_mod_eq e
   rw [Nat.mod_eq_of_lt (by omega)] at this
   omega
  ·exact h3
 have := h.least hq (p ++ List.replicate t (0, L)) (by
   rw [List.map_append, List.map_replicate]
   exact hp.append_right _) ⟨L, fun x hx => by
   rcases List.mem_append.1 hx with hx | hx
   ·exact h1 x hx
   ·rw [hr x hx]; exact Nat.le_refl _, by rw [kr_append, s2, List.length_replicate]; exact key⟩
 rw [csP_append, s1, List.map_replicate] at this
 simpa using this
end Go.Proofs.Gv
namespace Go.Proofs.Gv
theorem insR_perm (W : Nat → Nat) (x : Nat) : ∀ l, (insR W x l).Perm (x :: l)
 | [] => .refl _
 | y :: r => by
   unfold insR
   split
   ·exact ((insR_perm W x r).cons y).trans (.swap x y r)
   ·exact .refl _
theorem ordR_perm (W : Nat → Nat) : ∀ n, (ordR W n).Perm (List.range n)
 | 0 => .refl _
 | n + 1 => by
   unfold ordR
   rw [List.range_succ]
   exact ((insR_perm W n _).trans ((ordR_perm W n).cons n)).trans (List.perm_append_comm (l₁ := [n]) (l₂ := List.range n))
/- Lengths in order: the cost of pairs. -/
end Go.Proofs.Gv
namespace Go.Proofs.Gv
theorem insR_lex (W : Nat → Nat) (x : Nat) : ∀ l : List Nat, (∀ y ∈ l, y < x) → l.Pairwise (fun a b => W a < W b ∨ (W a = W b ∧ b < a)) → (insR W x l).Pairwise (fun a b => W a < W b ∨ (W a = W b ∧ b < a))
 | [], _, _ => by simp [insR]
 | y :: r, hx, h => by
   rw [List.pairwise_cons] at h
   unfold insR
   split
   ·rename_i hlt
    rw [List.pairwise_cons]
    refine ⟨fun z hz => ?_, insR_lex W x r (fun y hy => hx y (List.mem_cons_of_mem _ hy)) h.2⟩
    rcases (insR_mem W x z r).1 hz with rfl | hz
    ·exact .inl hlt
    ·exact h.1 z hz
   ·rename_i hge
    rw [List.pairwise_cons]
    refine ⟨fun z hz => ?_, List.pairwise_cons.2 h⟩
    have hzx := hx z hz
    rcases List.mem_cons.1 hz with rfl | hz
    ·omega
    ·have := h.1 z hz; omega
theorem ordR_lex (W : Nat → Nat) : ∀ n, (ordR W n).Pairwise (fun a b => W a < W b ∨ (W a = W b ∧ b < a))
 | 0 => List.Pairwise.nil
 | n + 1 => by unfold ordR; exact insR_lex W n _ (fun y hy => (ordR_mem W y n).1 hy) (ordR_lex W n)
def lexO (V : Nat → Nat) (a b : Nat) : Prop := V a < V b ∨ (V a = V b ∧ a < b)
def lenO (V : Nat → Nat) (M n : Nat) : List Nat := (ordR (fun x => M - V x) n).reverse
theorem lenO_len (V : Nat → Nat) (M n : Nat) : (lenO V M n).length = n := by unfold lenO; rw [List.length_reverse, ordR_len]
theorem lenO_mem {V : Nat → Nat} {M n i : Nat} : i ∈ lenO V M n ↔ i < n := by unfold lenO; rw [List.mem_reverse, ordR_mem]
theorem lenO_lex {V : Nat → Nat} {M n : Nat} (h : ∀ x, V x ≤ M) : (lenO V M n).Pairwise (lexO V) := by
 unfold lenO
 rw [List.pairwise_reverse]
 refine (ordR_lex _ n).imp fun {a b} h2 => ?_
 have h1 := h a
 have h3 := h b
 unfold lexO
 omega
def filO (V : Nat → Nat) (n : Nat) : Nat → List Nat
 | 0 => []
 | k + 1 => filO V n k ++ (List.range n).filter (fun i => V i == k + 1)
theorem filO_mem {V : Nat → Nat} {n i : Nat} : ∀ {k : Nat}, i ∈ filO V n k ↔ i < n ∧ 1 ≤ V i ∧ V i ≤ k
 | 0 => by unfold filO; simp; omega
 | k + 1 => by
   unfold filO
   rw [List.mem_append, filO_mem, List.mem_filter, List.mem_range, beq_iff_eq]
   omega
theorem filO_lex {V : Nat → Nat} {n : Nat} : ∀ k : Nat, (filO V n k).Pairwise (lexO V)
 | 0 => List.Pairwise.nil
 | k + 1 => by
   unfold filO
   rw [List.pairwise_append]
   refine ⟨filO_lex k, ?_, fun a ha b hb => ?_⟩
   ·refine (List.pairwise_lt_range.filter _).imp_of_mem fun {a b} ha hb h => ?_
    rw [List.mem_filter, beq_iff_eq] at ha hb
    unfold lexO
    omega
   ·rw [List.mem_filter, beq_iff_eq] at hb
    have := filO_mem.1 ha
    unfold lexO
    omega
theorem lex_nodup {V : Nat → Nat} {l : List Nat} (h : l.Pairwise (lexO V)) : l.Nodup := h.imp fun {a b} h e => by subst e; unfold lexO at h; omega
theorem fil_eq {V : Nat → Nat} {M n : Nat} (h : ∀ x, V x ≤ M) (h1 : ∀ i, i < n → 1 ≤ V i) : filO V n M = lenO V M n := by
 refine List.Perm.eq_of_pairwise (le := lexO V) (fun a b _ _ h1 h2 => ?_) (filO_lex M) (lenO_lex h) ?_
 ·unfold lexO at h1 h2; omega
 ·refine (List.perm_ext_iff_of_nodup (lex_nodup (filO_lex M)) (lex_nodup (lenO_lex h))).2 fun i => ?_
  rw [filO_mem, lenO_mem]
  exact ⟨fun h => h.1, fun hi => ⟨hi, h1 i hi, h i⟩⟩
theorem lenO_asc {V : Nat → Nat} {M n : Nat} (h : ∀ x, V x ≤ M) : ((lenO V M n).map V).Pairwise (· ≤ ·) := by
 rw [List.pairwise_map]
 refine (lenO_lex h).imp fun {a b} h => ?_
 unfold lexO at h
 omega
def canV (q : Nat) (ls : List Nat) : Nat → Nat
 | 0 => 0
 | i + 1 => (canV q ls i + 1) * q ^ (ls.getD (i + 1) 0 - ls.getD i 0)
def canW (q : Nat) (ls : List Nat) (i : Nat) : ByteArray := unS q (ls.getD i 0) (canV q ls i)
theorem canW_size (q : Nat) (ls : List Nat) (i : Nat) : (canW q ls i).size = ls.getD i 0 := unS_size _ _ _
section
variable {q M : Nat} {ls : List Nat} (hs : ls.Pairwise (· ≤ ·)) (hM : ∀ x ∈ ls, x ≤ M)
include hs hM
theorem can_sum : ∀ i, i < ls.length → (canV q ls i + 1) * q ^ (M - ls.getD i 0) = ((ls.take (i + 1)).map fun x => q ^ (M - x)).sum
 | 0, h => by
   cases ls with
   | nil => simp at h
   | cons a r => simp [canV]
 | i + 1, h => by
   have ih := can_sum i (by omega)
   have e0 : ls.getD i 0 = ls[i]'(by omega) := by rw [List.getD_eq_getElem?_getD, List.getElem?_eq_getElem (by omega)]; rfl
   have e1 : ls.getD (i + 1) 0 = ls[i + 1] := by rw [List.getD_eq_getElem?_getD, List.getElem?_eq_getElem h]; rfl
   have hle : ls.getD i 0 ≤ ls.getD (i + 1) 0 := by
    rw [e0, e1]
    exact List.pairwise_iff_getElem.1 hs i (i + 1) (by omega) h (by omega)
   have hm1 : ls.getD (i + 1) 0 ≤ M := by rw [e1]; exact hM _ (List.getElem_mem _)
   rw [List.take_add_one, List.getElem?_eq_getElem h, List.map_append, List.sum_append, ← ih]
   show ((canV q ls i + 1) * q ^ (ls.getD (i + 1) 0 - ls.getD i 0) + 1) * q ^ (M - ls.getD (i + 1) 0) = _
   rw [Nat.add_mul, Nat.one_mul, Nat.mul_assoc, ← Nat.pow_add, show ls.getD (i + 1) 0 - ls.getD i 0 + (M - ls.getD (i + 1) 0) = M - ls.getD i 0 by omega, e1]
   simp
theorem can_in (hq : 1 ≤ q) (hk : (ls.map fun x => q ^ (M - x)).sum ≤ q ^ M) (i : Nat) (h : i < ls.length) : canV q ls i < q ^ ls.getD i 0 ∧ (i + 1 < ls.length → canV q ls i + 1 < q ^ ls.getD i 0) := by
 have e0 : ls.getD i 0 = ls[i] := by rw [List.getD_eq_getElem?_getD, List.getElem?_eq_getElem h]; rfl
 have hm : ls.getD i 0 ≤ M := by rw [e0]; exact hM _ (List.getElem_mem _)
 have hsum := can_sum (q := q) hs hM i h
 have hpow : q ^ M = q ^ ls.getD i 0 * q ^ (M - ls.getD i 0) := by rw [← Nat.pow_add]; congr 1; omega
 have hpos : 0 < q ^ (M - ls.getD i 0) := Nat.pow_pos hq
 have hsplit : (ls.map fun x => q ^ (M - x)).sum = ((ls.take (i + 1)).map fun x => q ^ (M - x)).sum + ((ls.drop (i + 1)).map fun x => q ^ (M - x)).sum := by
  rw [← List.sum_append, ← List.map_append, List.take_append_drop]
 refine ⟨?_, fun h1 => ?_⟩
 ·have h2 : (canV q ls i + 1) * q ^ (M - ls.getD i 0) ≤ q ^ ls.getD i 0 * q ^ (M - ls.getD i 0) := by rw [hsum, ← hpow]; omega
  exact Nat.le_of_mul_le_mul_right h2 hpos
 ·have h3 : 0 < ((ls.drop (i + 1)).map fun x => q ^ (M - x)).sum := by
   rw [List.drop_eq_getElem_cons h1, List.map_cons, List.sum_cons]
   have : 0 < q ^ (M - ls[i + 1]) := Nat.pow_pos hq
   omega
  have h2 : (canV q ls i + 1) * q ^ (M - ls.getD i 0) < q ^ ls.getD i 0 * q ^ (M - ls.getD i 0) := by rw [hsum, ← hpow]; omega
  exact Nat.lt_of_mul_lt_mul_right h2
end
theorem unS_zero {q : Nat} (h1 : 1 ≤ q) : ∀ n : Nat, unS q n 0 = ⟨(List.replicate n 48).toArray⟩ := fun n => by
 refine ba_at_ext (by rw [unS_size, zeros_size]) fun j hj => ?_
 rw [unS_size] at hj
 rw [unS_at hj, at'_zeros hj]
 unfold unD
 rw [Nat.zero_div, Nat.zero_mod]
 rfl
theorem unS_pad {q n A : Nat} (h1 : 1 ≤ q) : ∀ k : Nat, unS q n A ++ ⟨(List.replicate k 48).toArray⟩ = unS q (n + k) (A * q ^ k)
 | 0 => by
   rw [Nat.pow_zero, Nat.mul_one]
   show unS q n A ++ ⟨#[]⟩ = unS q n A
   refine ba_at_ext (by rw [ByteArray.size_append]; rfl) fun j hj => ?_
   rw [ByteArray.size_append] at hj
   rw [at'_append, if_pos (by exact hj)]
 | k + 1 => by
   have ih := unS_pad (q := q) (n := n) (A := A) h1 k
   have h2 := unS_snoc (q := q) (n := n + k) (i := A * q ^ k) (c := 0) (by omega)
   rw [Nat.add_zero, Nat.mul_assoc, ← Nat.pow_succ] at h2
   rw [← zeros_snoc, show n + (k + 1) = n + k + 1 from rfl]
   refine Eq.trans ?_ h2.symm
   rw [← ih, ByteArray.append_assoc]
   simp
   rfl
theorem can_zero {q : Nat} (h1 : 1 ≤ q) (ls : List Nat) : canW q ls 0 = ⟨(List.replicate (ls.getD 0 0) 48).toArray⟩ := unS_zero h1 _
theorem can_next {q M : Nat} {ls : List Nat} (h2 : 2 ≤ q) (h16 : q ≤ 16) (hs : ls.Pairwise (· ≤ ·)) (hM : ∀ x ∈ ls, x ≤ M) (hk : (ls.map fun x => q ^ (M - x)).sum ≤ q ^ M) {i : Nat} (hi : i + 1 < ls.length) :
  ∃ i0, nxI q (canW q ls i) = some i0 ∧ canW q ls (i + 1) = nxAt (canW q ls i) i0 ++ ⟨(List.replicate (ls.getD (i + 1) 0 - ls.getD i 0) 48).toArray⟩ := by
 have hin := can_in hs hM (by omega) hk i (by omega)
 have hlt := hin.2 hi
 have hW : Wd q (canW q ls i) (canW q ls i).size := by rw [canW_size]; exact unS_Wd (by omega) h16
 have hrn : rn q (canW q ls i) (canW q ls i).size = canV q ls i := by rw [canW_size]; exact rn_unS (by omega) h16 hin.1
 have e0 : ls.getD i 0 = ls[i]'(by omega) := by rw [List.getD_eq_getElem?_getD, List.getElem?_eq_getElem (by omega)]; rfl
 have e1 : ls.getD (i + 1) 0 = ls[i + 1] := by rw [List.getD_eq_getElem?_getD, List.getElem?_eq_getElem hi]; rfl
 have hle : ls.getD i 0 ≤ ls.getD (i + 1) 0 := by
  rw [e0, e1]
  exact List.pairwise_iff_getElem.1 hs i (i + 1) (by omega) hi (by omega)
 rcases nxI_ways q (canW q ls i) with ⟨i0, h3, h4, h5, h6⟩ | ⟨h3, -⟩
 ·refine ⟨i0, h6, ?_⟩
  obtain ⟨a, b⟩ := rn_nxt h16 hW h3 h4 h5
  have hsz : (nxAt (canW q ls i) i0).size = ls.getD i 0 := by rw [nxAt_size, canW_size]
  have hnx : nxAt (canW q ls i) i0 = unS q (ls.getD i 0) (canV q ls i + 1) := by
   rw [hrn] at b
   rw [canW_size] at a b
   have h7 := unS_rn (q := q) (s := nxAt (canW q ls i) i0) (by rw [hsz]; exact a)
   rw [hsz, b] at h7
   exact h7.symm
  rw [hnx, unS_pad (by omega), show ls.getD i 0 + (ls.getD (i + 1) 0 - ls.getD i 0) = ls.getD (i + 1) 0 by omega]
  rfl
 ·have h7 := rn_top hW h3 _ (Nat.le_refl _)
  rw [hrn, canW_size] at h7
  omega
end Go.Proofs.Gv
namespace Go.Proofs.Gv
open Go Go.RowKit
def VN (z : Nat) : Value := .agg #[.bool false, .string (mg z)]
def ord2 (c d : Int) : Int := if c ≠ 0 then c else d
theorem or_any (g : Nat) (c d : Int) (w : World) (h : BC w g [.int .i64 c, .int .i64 d]) :
  Calls Tryz.prog 93 #[.slice (some ⟨g, 0, none⟩) 2 2] w fun e w' => e = .returned (.int .i64 (ord2 c d)) ∧ w' = w := by
 have h0 := h.at 0 (.int .i64 c) rfl
 have h1 := h.at 1 (.int .i64 d) rfl
 by_cases hc : c = 0
 ·subst hc
  by_cases hd : d = 0
  ·subst hd
   go_enter Tryz.func93, Tryz.ntmps93
   go_wp2_with fail
   refine wp_loop_rounds 3 ?_
   rw [rounds_succ]
   go_wp2_with fail
   rw [rounds_succ]
   go_wp2_with fail
   rw [rounds_succ]
   go_wp2
   go_ret
   exact ⟨rfl, rfl⟩
  ·have hb : (d == 0) = false := by simpa using hd
   have hb2 : (d != 0) = true := by simpa using hd
   have HD := Lib.hid hd
   clear hd
   go_enter Tryz.func93, Tryz.ntmps93
   go_wp2_with fail
   refine wp_loop_rounds 2 ?_
   rw [rounds_succ]
   go_wp2_with fail
   rw [rounds_succ]
   go_wp2
   go_ret
   exact ⟨rfl, rfl⟩
 ·have hb : (c == 0) = false := by simpa using hc
  have hb2 : (c != 0) = true := by simpa using hc
  have HD := Lib.hid (show ord2 c d = c by unfold ord2; rw [if_pos hc])
  clear hc
  go_enter Tryz.func93, Tryz.ntmps93
  go_wp2_with fail
  refine wp_loop_rounds 1 ?_
  rw [rounds_succ]
  go_wp2
  go_ret
  exact ⟨by rw [HD.out]; rfl, rfl⟩
theorem VN_rp {z : Nat} {N : Nat} (h : z < 2 ^ N) (hN : N ≤ 7900000) : Rp false (mg z) (z : Int) := by
 have := Rp.V (z := (z : Int)) N (by rwa [Int.natAbs_natCast]) hN
 rwa [Int.natAbs_natCast, show sgn (z : Int) = false from decide_eq_false (by omega)] at this
theorem ord_lt (u w : Nat) (i k : Int) : decide (ord2 (cmpI (u : Int) (w : Int)) (Lib.compareInt i k) < 0) = (decide (u < w) || (decide (u = w) && decide (i < k))) := by
 unfold ord2 cmpI
 by_cases h1 : u < w
 ·rw [if_pos (show (u : Int) < w by omega)]; simp [h1]
 ·by_cases h2 : u = w
  ·subst h2
   simp only [Int.lt_irrefl, if_false, ne_eq, not_true_eq_false]
   unfold Lib.compareInt
   by_cases h3 : i < k
   ·simp [h3]
   ·by_cases h4 : k < i
    ·simp [h3, h4]
    ·simp [h3, h4]
  ·rw [if_neg (show ¬ (u : Int) < w by omega), if_pos (show (w : Int) < u by omega)]
   simp [h1, h2]
theorem byWeight_any (i k : Int) (u v : Nat) (N : Nat) (hu : u < 2 ^ N) (hv : v < 2 ^ N) (hN : N ≤ 1000000) (w : World) :
  Calls Tryz.prog 65 #[.int .i64 i, .int .i64 k, VN u, VN v] w fun e w' => e = .returned (.int .i64 (ord2 (cmpI (u : Int) (v : Int)) (Lib.compareInt i k))) ∧ Below w.heap.size w w' := by
 have HU := Lib.hid (VN_rp hu (by omega))
 have HV := Lib.hid (VN_rp hv (by omega))
 clear hu hv
 unfold VN
 obtain ⟨c, hc⟩ : ∃ c, cmpI (u : Int) (v : Int) = c := ⟨_, rfl⟩
 obtain ⟨d, hd⟩ : ∃ d, Lib.compareInt i k = d := ⟨_, rfl⟩
 have HC := Lib.hid (fun W => cCmp HU.out HV.out W)
 have HD := Lib.hid (fun W => Tryz.cmp_Compare_int i k W)
 rw [hc, hd]
 rw [hc] at HC
 rw [hd] at HD
 clear hc hd
 go_enter Tryz.func65, Tryz.ntmps65
 have HB := Lib.hid (((Below.refl w.heap.size w).alloc (Nat.le_refl _) (.cells #[.bool false, .string (mg u)] 36)).alloc (by simp) (.cells #[.bool false, .string (mg v)] 36))
 have HX := Lib.hid ((BC.new w w.heap.size #[.bool false, .string (mg u)] 36 rfl).alloc (.cells #[.bool false, .string (mg v)] 36))
 have HY := Lib.hid (BC.new (w.alloc (.cells #[.bool false, .string (mg u)] 36)) (w.heap.size + 1) #[.bool false, .string (mg v)] 36 (by simp))
 have x0 := HX.out.at 0 (.bool false) rfl
 have x1 := HX.out.at 1 (.string (mg u)) rfl
 have y0 := HY.out.at 0 (.bool false) rfl
 have y1 := HY.out.at 1 (.string (mg v)) rfl
 go_wp2_with fail
 refine (HC.out _).mono ?_
 rintro e w1 ⟨rfl, hb⟩
 have HB1 := Lib.hid (bstep HB.out hb)
 clear hb x0 x1 y0 y1 HX HY HB
 go_wp2_with fail
 refine (HD.out _).mono ?_
 rintro e w2 ⟨rfl, rfl⟩
 have HZ := Lib.hid (BC.new w2 w2.heap.size #[.int .i64 c, .int .i64 d] 3 rfl)
 go_wp2_with fail
 refine (or_any _ _ _ _ HZ.out).mono ?_
 rintro e w3 ⟨rfl, rfl⟩
 go_wp2
 go_ret
 exact ⟨rfl, HB1.out.alloc HB1.out.size _⟩
end Go.Proofs.Gv
