/- Ordered codes, plainly: words as numbers with lengths; the greedy code; the least cost. -/
import Derived.Test.YtlbgkhjelbadmaaHuf
set_option linter.unusedSimpArgs false
set_option linter.unusedVariables false
namespace Go.Proofs.Gv

/-- The word that stands next behind one of m letters with the value v, of n letters. -/
def nxW (m v n : Nat) : Nat := if m ≤ n then (v + 1) * 2 ^ (n - m) else v / 2 ^ (m - n) + 1
/-- The words behind one of m letters with the value v; none if there is no room. -/
def ordF : List Nat → Nat → Nat → Option (List Nat)
  | [], _, _ => some []
  | n :: r, m, v => if nxW m v n < 2 ^ n then (ordF r n (nxW m v n)).map (nxW m v n :: ·) else none
def ordW : List Nat → Option (List Nat)
  | [] => some []
  | n :: r => (ordF r n 0).map (0 :: ·)
/-- Words one behind the other: lengths and values; each begins where the last one ends, or behind. -/
def asc : List (Nat × Nat) → Prop
  | [] => True
  | [x] => x.2 < 2 ^ x.1
  | x :: y :: r => x.2 < 2 ^ x.1 ∧ (x.2 + 1) * 2 ^ y.1 ≤ y.2 * 2 ^ x.1 ∧ asc (y :: r)
theorem p2 (n : Nat) : 0 < 2 ^ n := Nat.pow_pos (by decide)
theorem nxW_least {m v n u : Nat} (h : (v + 1) * 2 ^ n ≤ u * 2 ^ m) : nxW m v n ≤ u := by
  unfold nxW
  split
  · rename_i hmn
    have e : 2 ^ n = 2 ^ (n - m) * 2 ^ m := by rw [← Nat.pow_add]; congr 1; omega
    rw [e, ← Nat.mul_assoc] at h
    exact Nat.le_of_mul_le_mul_right h (p2 m)
  · rename_i hmn
    have e : 2 ^ m = 2 ^ (m - n) * 2 ^ n := by rw [← Nat.pow_add]; congr 1; omega
    rw [e, ← Nat.mul_assoc] at h
    have h := Nat.le_of_mul_le_mul_right h (p2 n)
    rcases Nat.lt_or_ge (v / 2 ^ (m - n)) u with h1 | h1
    · exact h1
    · exfalso
      have h2 := Nat.div_mul_le_self v (2 ^ (m - n))
      have h3 : u * 2 ^ (m - n) ≤ v / 2 ^ (m - n) * 2 ^ (m - n) := Nat.mul_le_mul_right _ h1
      omega
/-- Where there are such words at all, the greedy ones are found. -/
theorem ordF_least : ∀ (r : List Nat) (m v : Nat) (u : Nat) (us : List Nat), us.length = r.length → v ≤ u → asc ((m, u) :: r.zip us) → ∃ ws, ordF r m v = some ws
  | [], m, v, u, us, _, _, _ => ⟨[], rfl⟩
  | n :: r, m, v, u, [], h, _, _ => by cases h
  | n :: r, m, v, u, x :: us, h, hvu, ha => by
    have ha' : u < 2 ^ m ∧ (u + 1) * 2 ^ n ≤ x * 2 ^ m ∧ asc ((n, x) :: r.zip us) := ha
    obtain ⟨h1, h2, h3⟩ := ha'
    have hx : x < 2 ^ n := by
      cases hz : r.zip us with
      | nil => rw [hz] at h3; exact h3
      | cons y t => rw [hz] at h3; exact h3.1
    have hle : nxW m v n ≤ x := nxW_least (Nat.le_trans (Nat.mul_le_mul_right _ (by omega)) h2)
    obtain ⟨ws, hw⟩ := ordF_least r n (nxW m v n) x us (by simpa using h) hle h3
    unfold ordF
    rw [if_pos (by omega), hw]
    exact ⟨_, rfl⟩
theorem ordW_least {l us : List Nat} (h : us.length = l.length) (ha : asc (l.zip us)) : ∃ ws, ordW l = some ws := by
  cases l with
  | nil => exact ⟨[], rfl⟩
  | cons n r =>
    cases us with
    | nil => cases h
    | cons u us =>
      obtain ⟨ws, hw⟩ := ordF_least r n 0 u us (by simpa using h) (Nat.zero_le _) ha
      exact ⟨0 :: ws, by simp only [ordW, hw]; rfl⟩
/-- The least cost of an ordered tree over the weights, and the depths of the first one. -/
def minK (c : Nat → Nat) : Nat → Nat × Nat
  | 0 => (0, c 0)
  | k + 1 => if c (k + 1) < (minK c k).2 then (k + 1, c (k + 1)) else minK c k
theorem minK_spec (c : Nat → Nat) : ∀ k, (minK c k).1 ≤ k ∧ (minK c k).2 = c (minK c k).1 ∧ (∀ j, j ≤ k → (minK c k).2 ≤ c j) ∧ ∀ j, j < (minK c k).1 → (minK c k).2 < c j
  | 0 => by
    refine ⟨Nat.le_refl _, rfl, fun j hj => ?_, fun j hj => absurd hj (Nat.not_lt_zero _)⟩
    obtain rfl : j = 0 := by omega
    exact Nat.le_refl _
  | k + 1 => by
    obtain ⟨h1, h2, h3, h4⟩ := minK_spec c k
    unfold minK
    split
    · rename_i hlt
      refine ⟨Nat.le_refl _, rfl, fun j hj => ?_, fun j hj => ?_⟩
      · rcases Nat.lt_or_ge j (k + 1) with h | h
        · have := h3 j (by omega); show c (k + 1) ≤ c j; omega
        · have : j = k + 1 := by omega
          subst this; exact Nat.le_refl _
      · have := h3 j (by have : j < k + 1 := hj; omega)
        show c (k + 1) < c j
        omega
    · rename_i hge
      refine ⟨by omega, h2, fun j hj => ?_, h4⟩
      rcases Nat.lt_or_ge j (k + 1) with h | h
      · exact h3 j (by omega)
      · have : j = k + 1 := by omega
        subst this; omega
/-- cost and depths: the split is behind the first k + 1 weights -/
def alC : Nat → List Nat → Nat
  | 0, _ => 0
  | f + 1, W => if W.length ≤ 1 then 0 else W.sum + (minK (fun k => alC f (W.take (k + 1)) + alC f (W.drop (k + 1))) (W.length - 2)).2
def alK (f : Nat) (W : List Nat) : Nat := (minK (fun k => alC f (W.take (k + 1)) + alC f (W.drop (k + 1))) (W.length - 2)).1
def alD : Nat → List Nat → List Nat
  | 0, _ => [0]
  | f + 1, W => if W.length ≤ 1 then [0] else (alD f (W.take (alK f W + 1))).map (· + 1) ++ (alD f (W.drop (alK f W + 1))).map (· + 1)
theorem alC_fuel : ∀ (f g : Nat) (W : List Nat), W.length ≤ f → W.length ≤ g → alC f W = alC g W
  | 0, g, W, h, _ => by
    cases g with
    | zero => rfl
    | succ g => simp only [alC]; rw [if_pos (by omega)]
  | f + 1, g, W, h, hg => by
    cases g with
    | zero => simp only [alC]; rw [if_pos (by omega)]
    | succ g =>
      simp only [alC]
      split
      · rfl
      · rename_i h1
        have e : ∀ k, k ≤ W.length - 2 → alC f (W.take (k + 1)) + alC f (W.drop (k + 1)) = alC g (W.take (k + 1)) + alC g (W.drop (k + 1)) := fun k hk => by
          rw [alC_fuel f g _ (by rw [List.length_take]; omega) (by rw [List.length_take]; omega), alC_fuel f g _ (by rw [List.length_drop]; omega) (by rw [List.length_drop]; omega)]
        have : ∀ (c d : Nat → Nat) (n : Nat), (∀ k, k ≤ n → c k = d k) → minK c n = minK d n := fun c d n => by
          induction n with
          | zero => intro h; simp [minK, h 0 (Nat.le_refl _)]
          | succ n ih => intro h; simp only [minK]; rw [ih fun k hk => h k (by omega), h (n + 1) (Nat.le_refl _)]
        rw [this _ _ _ e]
/-- The least cost. -/
def alc (W : List Nat) : Nat := alC W.length W
theorem alc_one {W : List Nat} (h : W.length ≤ 1) : alc W = 0 := by
  unfold alc
  cases hW : W.length with
  | zero => rfl
  | succ n => simp only [alC]; rw [if_pos h]
def spl (W : List Nat) (k : Nat) : Nat := alc (W.take (k + 1)) + alc (W.drop (k + 1))
theorem spl_eq {f : Nat} {W : List Nat} (hf : W.length ≤ f + 1) {k : Nat} (hk : k ≤ W.length - 2) (h1 : ¬ W.length ≤ 1) : alC f (W.take (k + 1)) + alC f (W.drop (k + 1)) = spl W k := by
  unfold spl alc
  rw [alC_fuel f (W.take (k + 1)).length _ (by rw [List.length_take]; omega) (Nat.le_refl _), alC_fuel f (W.drop (k + 1)).length _ (by rw [List.length_drop]; omega) (Nat.le_refl _)]
theorem minK_congr {c d : Nat → Nat} : ∀ {n : Nat}, (∀ k, k ≤ n → c k = d k) → minK c n = minK d n
  | 0, h => by simp [minK, h 0 (Nat.le_refl _)]
  | n + 1, h => by simp only [minK]; rw [minK_congr fun k hk => h k (by omega), h (n + 1) (Nat.le_refl _)]
theorem alc_more {W : List Nat} (h : ¬ W.length ≤ 1) : alc W = W.sum + (minK (spl W) (W.length - 2)).2 := by
  unfold alc
  obtain ⟨n, hn⟩ : ∃ n, W.length = n + 1 := ⟨W.length - 1, by omega⟩
  conv => lhs; rw [hn]; unfold alC
  rw [if_neg h, minK_congr fun k hk => spl_eq (f := n) (by omega) hk h]
theorem alK_eq {f : Nat} {W : List Nat} (hf : W.length ≤ f + 1) (h : ¬ W.length ≤ 1) : alK f W = (minK (spl W) (W.length - 2)).1 := by
  unfold alK
  rw [minK_congr fun k hk => spl_eq (f := f) hf hk h]
theorem alc_le {W : List Nat} (h : ¬ W.length ≤ 1) {k : Nat} (h1 : 1 ≤ k) (h2 : k < W.length) : alc W ≤ W.sum + (alc (W.take k) + alc (W.drop k)) := by
  rw [alc_more h]
  have := (minK_spec (spl W) (W.length - 2)).2.2.1 (k - 1) (by omega)
  unfold spl at this
  rw [show k - 1 + 1 = k by omega] at this
  exact Nat.add_le_add_left this _
/-- Words that ascend, split by their first letters. -/
theorem asc_bound : ∀ (p : List (Nat × Nat)), asc p → ∀ x ∈ p, x.2 < 2 ^ x.1
  | [], _, x, h => by cases h
  | [y], ha, x, h => by rw [List.mem_singleton.1 h]; exact ha
  | y :: z :: r, ha, x, h => by
    rcases List.mem_cons.1 h with rfl | h
    · exact ha.1
    · exact asc_bound (z :: r) ha.2.2 x h
/-- Each later word begins behind the end of the first. -/
theorem asc_far : ∀ (r : List (Nat × Nat)) (x : Nat × Nat), asc (x :: r) → ∀ y ∈ r, (x.2 + 1) * 2 ^ y.1 ≤ y.2 * 2 ^ x.1
  | [], _, _, _, h => by cases h
  | z :: r, x, ha, y, h => by
    obtain ⟨h1, h2, h3⟩ := ha
    rcases List.mem_cons.1 h with rfl | h
    · exact h2
    · have := asc_far r z h3 y h
      -- x ends before z, z before y
      have e1 : (x.2 + 1) * 2 ^ z.1 * 2 ^ y.1 ≤ z.2 * 2 ^ x.1 * 2 ^ y.1 := Nat.mul_le_mul_right _ h2
      have e2 : (z.2 + 1) * 2 ^ y.1 * 2 ^ x.1 ≤ y.2 * 2 ^ z.1 * 2 ^ x.1 := Nat.mul_le_mul_right _ this
      have e3 : (x.2 + 1) * 2 ^ y.1 * 2 ^ z.1 ≤ y.2 * 2 ^ x.1 * 2 ^ z.1 := by
        have a1 : (x.2 + 1) * 2 ^ y.1 * 2 ^ z.1 = (x.2 + 1) * 2 ^ z.1 * 2 ^ y.1 := by ac_rfl
        have a2 : y.2 * 2 ^ x.1 * 2 ^ z.1 = y.2 * 2 ^ z.1 * 2 ^ x.1 := by ac_rfl
        have a3 : z.2 * 2 ^ x.1 * 2 ^ y.1 = z.2 * 2 ^ y.1 * 2 ^ x.1 := by ac_rfl
        rw [a1, a2]
        rw [a3] at e1
        have : z.2 * 2 ^ y.1 * 2 ^ x.1 ≤ (z.2 + 1) * 2 ^ y.1 * 2 ^ x.1 := Nat.mul_le_mul_right _ (Nat.mul_le_mul_right _ (by omega))
        omega
      exact Nat.le_of_mul_le_mul_right e3 (p2 _)
theorem asc_tail {x : Nat × Nat} {r : List (Nat × Nat)} (h : asc (x :: r)) : asc r := by
  cases r with
  | nil => trivial
  | cons y r => exact h.2.2
theorem asc_cons {x : Nat × Nat} {r : List (Nat × Nat)} (hx : x.2 < 2 ^ x.1) (hr : asc r) (hf : ∀ y ∈ r, (x.2 + 1) * 2 ^ y.1 ≤ y.2 * 2 ^ x.1) : asc (x :: r) := by
  cases r with
  | nil => exact hx
  | cons y r => exact ⟨hx, hf y (List.mem_cons_self ..), hr⟩
theorem asc_map (f : Nat × Nat → Nat × Nat) (P : Nat × Nat → Prop) (h1 : ∀ x, P x → x.2 < 2 ^ x.1 → (f x).2 < 2 ^ (f x).1) (h2 : ∀ x y, P x → P y → (x.2 + 1) * 2 ^ y.1 ≤ y.2 * 2 ^ x.1 → ((f x).2 + 1) * 2 ^ (f y).1 ≤ (f y).2 * 2 ^ (f x).1) :
    ∀ p : List (Nat × Nat), (∀ x ∈ p, P x) → asc p → asc (p.map f)
  | [], _, _ => trivial
  | x :: r, hP, ha => by
    rw [List.map_cons]
    refine asc_cons (h1 x (hP x (List.mem_cons_self ..)) (asc_bound _ ha x (List.mem_cons_self ..))) (asc_map f P h1 h2 r (fun y hy => hP y (List.mem_cons_of_mem _ hy)) (asc_tail ha)) fun y hy => ?_
    obtain ⟨z, hz, rfl⟩ := List.mem_map.1 hy
    exact h2 x z (hP x (List.mem_cons_self ..)) (hP z (List.mem_cons_of_mem _ hz)) (asc_far r x ha z hz)
end Go.Proofs.Gv
