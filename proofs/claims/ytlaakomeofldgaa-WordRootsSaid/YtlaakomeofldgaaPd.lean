/- Periods and roots of words: plain Lean. -/
import Derived.Test.YtlaakomeofldgaaWord
namespace Go.Proofs.Gv
open Go

/-- The first L letters repeat themselves after n. -/
def Pd (f : Nat → UInt8) (L n : Nat) : Prop := ∀ i, i + n < L → f i = f (i + n)
theorem Bd_Pd {f : Nat → UInt8} {L n : Nat} (h1 : 1 ≤ n) (h2 : n ≤ L) : Bd f L (L - n) ↔ Pd f L n := by
  constructor
  · rintro ⟨_, h⟩ i hi
    have := h i (by omega)
    rwa [show L - (L - n) + i = i + n by omega] at this
  · intro h
    refine ⟨by omega, fun j hj => ?_⟩
    rw [show L - (L - n) + j = j + n by omega]
    exact h j (by omega)
theorem Pd.sub {f : Nat → UInt8} {L p q : Nat} (hp : Pd f L p) (hq : Pd f L q) (h : p < q) (hL : p + q ≤ L) : Pd f L (q - p) := by
  intro i hi
  by_cases h1 : i + q < L
  · rw [hq i h1, hp (i + (q - p)) (by omega)]
    congr 1; omega
  · have a := hp (i - p) (by omega)
    have b := hq (i - p) (by omega)
    rw [show i - p + p = i by omega] at a
    rw [show i - p + q = i + (q - p) by omega] at b
    rw [← a, b]
theorem Pd.gcd {f : Nat → UInt8} {L : Nat} : ∀ (m p q : Nat), p + q ≤ m → 1 ≤ p → 1 ≤ q → p + q ≤ L → Pd f L p → Pd f L q → Pd f L (Nat.gcd p q) := by
  intro m
  induction m with
  | zero => intro p q h h1; omega
  | succ m ih =>
    intro p q hm h1 h2 hL hp hq
    rcases Nat.lt_trichotomy p q with h | h | h
    · have := ih p (q - p) (by omega) h1 (by omega) (by omega) hp (hp.sub hq h hL)
      rwa [Nat.gcd_sub_self_right (by omega)] at this
    · subst h; rwa [Nat.gcd_self]
    · have := ih (p - q) q (by omega) (by omega) h2 (by omega) (hq.sub hp h (by omega)) hq
      rwa [Nat.gcd_sub_self_left (by omega)] at this
theorem Pd.mul {f : Nat → UInt8} {L p : Nat} (hp : Pd f L p) : ∀ k, Pd f L (k * p) := by
  intro k
  induction k with
  | zero => intro i _; simp
  | succ k ih =>
    intro i hi
    rw [Nat.succ_mul] at hi ⊢
    rw [ih i (by omega), hp _ (by omega)]
    congr 1; omega

/-- The least period. -/
theorem per_Pd (s : ByteArray) (h : 0 < s.size) : Pd (at' s) s.size (per s) := by
  have h1 := per_pos s h
  have h2 := per_le s
  refine (Bd_Pd h1 h2).mp ?_
  have h3 := mb_lt (at' s) h
  rw [show s.size - per s = mb (at' s) s.size by unfold per; omega]
  exact (mb_MB _ h).1
theorem per_min (s : ByteArray) {n : Nat} (h1 : 1 ≤ n) (h2 : n ≤ s.size) (hn : Pd (at' s) s.size n) : per s ≤ n := by
  have h3 := (mb_MB (at' s) (i := s.size) (by omega)).2 _ ((Bd_Pd h1 h2).mpr hn)
  unfold per; omega
/-- The root: the least period that divides the length; it divides each of them. -/
theorem rl_dvd_size (s : ByteArray) : rl s ∣ s.size := by
  unfold rl
  split
  · exact Nat.dvd_of_mod_eq_zero (by assumption)
  · exact Nat.dvd_refl _
theorem rl_Pd (s : ByteArray) (h : 0 < s.size) : Pd (at' s) s.size (rl s) := by
  unfold rl
  split
  · exact per_Pd s h
  · intro i hi; omega
theorem rl_dvd (s : ByteArray) {n : Nat} (h1 : 1 ≤ n) (hd : n ∣ s.size) (hn : Pd (at' s) s.size n) (hs : 0 < s.size) : rl s ∣ n := by
  obtain ⟨k, hk⟩ := hd
  by_cases e : n = s.size
  · rw [e]; exact rl_dvd_size s
  · have hk2 : 2 ≤ k := by
      rcases k with _ | _ | k
      · omega
      · omega
      · omega
    have h2 : n * 2 ≤ n * k := Nat.mul_le_mul_left _ hk2
    have h3 := per_min s h1 (by omega) hn
    have h4 := per_pos s hs
    have h5 := Pd.gcd (per s + n) (per s) n (Nat.le_refl _) h4 h1 (by omega) (per_Pd s hs) hn
    have h6 : 1 ≤ Nat.gcd (per s) n := Nat.gcd_pos_of_pos_left _ h4
    have h7 := per_min s h6 (Nat.le_trans (Nat.gcd_le_right _ h1) (by omega)) h5
    have h8 : Nat.gcd (per s) n ≤ per s := Nat.gcd_le_left _ h4
    have h9 : per s ∣ n := by
      have := Nat.gcd_dvd_right (per s) n
      rwa [show Nat.gcd (per s) n = per s by omega] at this
    have h10 : s.size % per s = 0 := Nat.mod_eq_zero_of_dvd (Nat.dvd_trans h9 ⟨k, hk⟩)
    unfold rl
    rw [if_pos h10]
    exact h9
theorem rl_eq (s : ByteArray) {n : Nat} (h1 : 1 ≤ n) (hd : n ∣ s.size) (hn : Pd (at' s) s.size n) (hs : 0 < s.size) (hmin : ∀ k, 1 ≤ k → k < n → ¬ (k ∣ s.size ∧ Pd (at' s) s.size k)) : rl s = n := by
  have h2 := Nat.le_of_dvd h1 (rl_dvd s h1 hd hn hs)
  rcases Nat.lt_or_ge (rl s) n with h | h
  · exact (hmin _ (rl_pos s hs) h ⟨rl_dvd_size s, rl_Pd s hs⟩).elim
  · omega
end Go.Proofs.Gv
