/- Plain laws of words and their numbers. -/
import Derived.Test.YtlaakomeofldgaaRank
namespace Go.Proofs.Gv
open Go Go.RowKit

/-- Letter j of the word of n letters with number A. -/
def unD (q n A j : Nat) : UInt8 := ltr (A / q ^ (n - 1 - j) % q)
/-- The word of n letters with number A. -/
def unS (q n A : Nat) : ByteArray := ⟨((List.range n).map (unD q n A)).toArray⟩
theorem unS_size (q n A : Nat) : (unS q n A).size = n := by
  show ((List.range n).map (unD q n A)).toArray.size = n
  simp
theorem unS_at {q n A j : Nat} (h : j < n) : at' (unS q n A) j = unD q n A j := by
  unfold at' unS
  rw [List.getD_eq_getElem?_getD, List.getElem?_eq_getElem (by simpa using h)]
  simp
/-- The number of the first k letters. -/
def rn (q : Nat) (s : ByteArray) : Nat → Nat
  | 0 => 0
  | k + 1 => rn q s k * q + (dg (at' s k)).toNat
/-- All letters are of the alphabet. -/
def Wd (q : Nat) (s : ByteArray) (n : Nat) : Prop := ∀ j, j < n → 0 ≤ dg (at' s j) ∧ (dg (at' s j)).toNat < q
theorem Wd.of {q : Nat} {s : ByteArray} (h : okW q s = true) : Wd q s s.size := fun j hj => by
  have := okW_iff.mp h j hj
  unfold okL at this
  simp at this
  omega
theorem Wd.ok {q : Nat} {s : ByteArray} (h : Wd q s s.size) : okW q s = true := okW_iff.mpr fun j hj => by
  have := h j hj
  unfold okL
  simp
  omega
theorem rk_rn {q : Nat} {s : ByteArray} : ∀ k, Wd q s k → rk q s k = (rn q s k : Nat) := by
  intro k
  induction k with
  | zero => intro _; rfl
  | succ k ih =>
    intro h
    have h1 := ih fun j hj => h j (by omega)
    have h2 := (h k (by omega)).1
    unfold rk rn
    rw [h1]
    push_cast
    omega
theorem rn_lt {q : Nat} {s : ByteArray} : ∀ k, Wd q s k → rn q s k < q ^ k := by
  intro k
  induction k with
  | zero => intro _; show 0 < 1; decide
  | succ k ih =>
    intro h
    have h1 := ih fun j hj => h j (by omega)
    have h2 := (h k (by omega)).2
    have h3 : (rn q s k + 1) * q ≤ q ^ k * q := Nat.mul_le_mul_right q h1
    rw [Nat.add_mul, Nat.one_mul] at h3
    rw [Nat.pow_succ]
    unfold rn
    omega
theorem rn_dig {q : Nat} {s : ByteArray} : ∀ k, Wd q s k → ∀ j, j < k → rn q s k / q ^ (k - 1 - j) % q = (dg (at' s j)).toNat := by
  intro k
  induction k with
  | zero => intro _ j hj; omega
  | succ k ih =>
    intro h j hj
    have h2 := (h k (by omega)).2
    have hq : 0 < q := by omega
    unfold rn
    by_cases e : j = k
    · subst e
      rw [show j + 1 - 1 - j = 0 by omega, Nat.pow_zero, Nat.div_one, Nat.mul_add_mod_self_right, Nat.mod_eq_of_lt h2]
    · have h3 := ih (fun j hj => h j (by omega)) j (by omega)
      rw [show k + 1 - 1 - j = (k - 1 - j) + 1 by omega, Nat.pow_succ, Nat.mul_comm (q ^ _) q, ← Nat.div_div_eq_div_mul, Nat.mul_comm (rn q s k) q, Nat.mul_add_div hq, Nat.div_eq_of_lt h2, Nat.add_zero]
      exact h3
theorem ba_at_ext {s t : ByteArray} (hs : s.size = t.size) (h : ∀ j, j < s.size → at' s j = at' t j) : s = t := by
  have h1 := map_at' s
  have h2 := map_at' t
  rw [← h1, ← h2, ← hs]
  congr 2
  exact List.map_congr_left fun j hj => h j (by simpa using hj)
theorem unS_rn {q : Nat} {s : ByteArray} (h : Wd q s s.size) : unS q s.size (rn q s s.size) = s := by
  refine ba_at_ext (unS_size _ _ _) fun j hj => ?_
  rw [unS_size] at hj
  rw [unS_at hj]
  unfold unD
  rw [rn_dig _ h j hj]
  exact ltr_dg _ (h j hj).1
theorem unS_Wd {q n A : Nat} (h1 : 1 ≤ q) (h2 : q ≤ 16) : Wd q (unS q n A) n := fun j hj => by
  rw [unS_at hj]
  unfold unD
  have : A / q ^ (n - 1 - j) % q < q := Nat.mod_lt _ h1
  rw [dg_ltr _ (by omega)]
  omega
theorem rn_unS' {q n A : Nat} (h1 : 1 ≤ q) (h2 : q ≤ 16) : ∀ k, k ≤ n → rn q (unS q n A) k = A / q ^ (n - k) % q ^ k := by
  intro k
  induction k with
  | zero => intro _; show 0 = _; rw [Nat.pow_zero, Nat.mod_one]
  | succ k ih =>
    intro hk
    unfold rn
    rw [ih (by omega), unS_at (by omega)]
    unfold unD
    have h4 : A / q ^ (n - 1 - k) % q < q := Nat.mod_lt _ h1
    rw [dg_ltr _ (by omega)]
    obtain ⟨B, hB⟩ : ∃ B, A / q ^ (n - 1 - k) = B := ⟨_, rfl⟩
    rw [show n - k = (n - 1 - k) + 1 by omega, Nat.pow_succ, ← Nat.div_div_eq_div_mul, hB, show n - (k + 1) = n - 1 - k by omega, hB, Nat.pow_succ, Nat.mul_comm (q ^ k) q, Nat.mod_mul, Nat.mul_comm q]
    rw [Int.toNat_natCast, Nat.add_comm]
theorem rn_unS {q n A : Nat} (h1 : 1 ≤ q) (h2 : q ≤ 16) (hA : A < q ^ n) : rn q (unS q n A) n = A := by
  rw [rn_unS' h1 h2 n (Nat.le_refl n), Nat.sub_self, Nat.pow_zero, Nat.div_one, Nat.mod_eq_of_lt hA]

theorem nxAt_size (s : ByteArray) (i : Nat) : (nxAt s i).size = s.size := by
  show ((List.range s.size).map _).toArray.size = _
  simp
theorem nxAt_at {s : ByteArray} {i j : Nat} (h : j < s.size) : at' (nxAt s i) j = if j = i then ltr ((dg (at' s i)).toNat + 1) else if j < i + 1 then at' s j else 48 := by
  unfold nxAt
  rw [at', List.getD_eq_getElem?_getD, List.getElem?_eq_getElem (by simpa using h)]
  simp
theorem dg_48 : dg 48 = 0 := by decide
/-- The next word of the same length has the next number. -/
theorem rn_nxt {q : Nat} {s : ByteArray} {i : Nat} (h2 : q ≤ 16) (hW : Wd q s s.size) (hi : i < s.size) (hd : dg (at' s i) + 1 < q) (ha : ∀ j, i < j → j < s.size → ¬ dg (at' s j) + 1 < q) :
    Wd q (nxAt s i) s.size ∧ rn q (nxAt s i) s.size = rn q s s.size + 1 := by
  have hdi : dg (at' (nxAt s i) i) = dg (at' s i) + 1 := by
    rw [nxAt_at hi, if_pos rfl, dg_ltr _ (by have := (hW i hi).1; omega)]
    have := (hW i hi).1
    omega
  have hlo : ∀ j, j < i → at' (nxAt s i) j = at' s j := fun j hj => by
    rw [nxAt_at (by omega), if_neg (by omega), if_pos (by omega)]
  have hhi : ∀ j, i < j → j < s.size → dg (at' (nxAt s i) j) = 0 := fun j hj h => by
    rw [nxAt_at h, if_neg (by omega), if_neg (by omega), dg_48]
  constructor
  · intro j hj
    have := hW j hj
    rcases Nat.lt_trichotomy j i with h | h | h
    · rw [hlo j h]; exact this
    · subst h; rw [hdi]; omega
    · rw [hhi j h hj]; have := hW i hi; omega
  · have low : ∀ k, k ≤ i → rn q (nxAt s i) k = rn q s k := by
      intro k
      induction k with
      | zero => intro _; rfl
      | succ k ih => intro hk; unfold rn; rw [ih (by omega), hlo k (by omega)]
    have high : ∀ d, i + 1 + d ≤ s.size → rn q (nxAt s i) (i + 1 + d) = rn q s (i + 1 + d) + 1 := by
      intro d
      induction d with
      | zero =>
        intro _
        show rn q (nxAt s i) i * q + (dg (at' (nxAt s i) i)).toNat = rn q s i * q + (dg (at' s i)).toNat + 1
        rw [low i (Nat.le_refl i), hdi]
        have := (hW i hi).1
        omega
      | succ d ih =>
        intro hk
        have h1 := ih (by omega)
        show rn q (nxAt s i) (i + 1 + d) * q + (dg (at' (nxAt s i) (i + 1 + d))).toNat = rn q s (i + 1 + d) * q + (dg (at' s (i + 1 + d))).toNat + 1
        rw [h1, hhi (i + 1 + d) (by omega) (by omega), Nat.add_mul]
        have h3 := hW (i + 1 + d) (by omega)
        have h4 := ha (i + 1 + d) (by omega) (by omega)
        omega
    have := high (s.size - (i + 1)) (by omega)
    rwa [show i + 1 + (s.size - (i + 1)) = s.size by omega] at this
theorem rn_top {q : Nat} {s : ByteArray} (hW : Wd q s s.size) (ha : ∀ j, j < s.size → ¬ dg (at' s j) + 1 < q) : ∀ k, k ≤ s.size → rn q s k + 1 = q ^ k := by
  intro k
  induction k with
  | zero => intro _; rfl
  | succ k ih =>
    intro hk
    have h1 := ih (by omega)
    have h3 := hW k (by omega)
    have h4 := ha k (by omega)
    rw [Nat.pow_succ, ← h1, Nat.add_mul]
    show rn q s k * q + (dg (at' s k)).toNat + 1 = rn q s k * q + 1 * q
    omega
/-- The two ways of nxI. -/
theorem nxI_ways (q : Nat) (s : ByteArray) : (∃ i, i < s.size ∧ dg (at' s i) + 1 < q ∧ (∀ j, i < j → j < s.size → ¬ dg (at' s j) + 1 < q) ∧ nxI q s = some i) ∨ ((∀ j, j < s.size → ¬ dg (at' s j) + 1 < q) ∧ nxI q s = none) := by
  have key : ∀ n, n ≤ s.size → (∃ i, i < s.size ∧ dg (at' s i) + 1 < q ∧ (∀ j, i < j → j < s.size → ¬ dg (at' s j) + 1 < q)) ∨ (∀ j, s.size - n ≤ j → j < s.size → ¬ dg (at' s j) + 1 < q) := by
    intro n
    induction n with
    | zero => intro _; exact .inr fun j h1 h2 => by omega
    | succ n ih =>
      intro hn
      rcases ih (by omega) with h | h
      · exact .inl h
      · by_cases hx : dg (at' s (s.size - (n + 1))) + 1 < q
        · exact .inl ⟨_, by omega, hx, fun j h1 h2 => h j (by omega) h2⟩
        · refine .inr fun j h1 h2 => ?_
          by_cases e : j = s.size - (n + 1)
          · subst e; exact hx
          · exact h j (by omega) h2
  rcases key s.size (Nat.le_refl _) with ⟨i, h1, h2, h3⟩ | h
  · exact .inl ⟨i, h1, h2, h3, nxI_some h1 h2 h3⟩
  · have h' : ∀ j, j < s.size → ¬ dg (at' s j) + 1 < q := fun j hj => h j (by omega) hj
    exact .inr ⟨h', nxI_none h'⟩
/-- What Next answers, by numbers. -/
theorem next_num {q : Nat} {s : ByteArray} (h2 : q ≤ 16) (hl : s.size < 65536) (hc : chk q s = 0) :
    (∃ t, nextS q s = (t, 0) ∧ t.size = s.size ∧ Wd q t s.size ∧ rn q t s.size = rn q s s.size + 1 ∧ rn q s s.size + 1 < q ^ s.size) ∨
    (nextS q s = (⟨(List.replicate (s.size + 1) 48).toArray⟩, 0) ∧ rn q s s.size + 1 = q ^ s.size) := by
  obtain ⟨_, _, _, hw⟩ := chk_ok hc
  have hW : Wd q s s.size := Wd.of (by simpa using hw)
  have hN : nextS q s = match nxI q s with
      | some i => (nxAt s i, 0)
      | none => if s.size = 65536 then (⟨#[]⟩, 4) else (⟨(List.replicate (s.size + 1) 48).toArray⟩, 0) := by
    unfold nextS; rw [if_pos hc, Int.toNat_natCast]
    rfl
  rcases nxI_ways q s with ⟨i, h3, h4, h5, h6⟩ | ⟨h3, h4⟩
  · obtain ⟨a, b⟩ := rn_nxt h2 hW h3 h4 h5
    refine .inl ⟨nxAt s i, by rw [hN, h6], nxAt_size s i, a, b, ?_⟩
    have := rn_lt _ a
    rw [b] at this
    exact this
  · refine .inr ⟨by rw [hN, h4]; simp only []; rw [if_neg (by omega)], rn_top hW h3 _ (Nat.le_refl _)⟩
theorem unS_snoc {q n i c : Nat} (hc : c < q) : unS q (n + 1) (i * q + c) = unS q n i ++ ⟨#[ltr c]⟩ := by
  have hq : 0 < q := by omega
  have hsz : (unS q n i ++ (⟨#[ltr c]⟩ : ByteArray)).size = n + 1 := by
    rw [ByteArray.size_append, unS_size]; rfl
  refine ba_at_ext (by rw [unS_size, hsz]) fun j hj => ?_
  rw [unS_size] at hj
  rw [unS_at hj]
  have hat : at' (unS q n i ++ (⟨#[ltr c]⟩ : ByteArray)) j = if j < n then at' (unS q n i) j else ltr c := by
    unfold at'
    rw [ByteArray.data_append, Array.toList_append, List.getD_eq_getElem?_getD]
    have hl : (unS q n i).data.toList.length = n := by rw [Array.length_toList]; exact unS_size q n i
    by_cases h : j < n
    · rw [if_pos h, List.getElem?_append_left (by omega), List.getD_eq_getElem?_getD]
    · rw [if_neg h, List.getElem?_append_right (by omega), hl, show j - n = 0 by omega]; rfl
  rw [hat]
  unfold unD
  by_cases h : j < n
  · rw [if_pos h, unS_at h]
    unfold unD
    rw [show n + 1 - 1 - j = (n - 1 - j) + 1 by omega, Nat.pow_succ, Nat.mul_comm (q ^ _) q, ← Nat.div_div_eq_div_mul, Nat.mul_comm i q, Nat.mul_add_div hq, Nat.div_eq_of_lt hc, Nat.add_zero]
  · rw [if_neg h, show n + 1 - 1 - j = 0 by omega, Nat.pow_zero, Nat.div_one, Nat.mul_comm i q, Nat.mul_add_mod_self_left, Nat.mod_eq_of_lt hc]
end Go.Proofs.Gv
