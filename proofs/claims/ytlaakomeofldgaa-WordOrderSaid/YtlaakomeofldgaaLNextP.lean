/- WordNext: the plain laws. -/
import Derived.Test.YtlaakomeofldgaaUnL
namespace Go.Proofs.Gv
open Go Go.RowKit

theorem less_false : ∀ (x y : List UInt8) (i : Nat) (a b : UInt8), (∀ j, j < i → x[j]? = y[j]?) → x[i]? = some a → y[i]? = some b → b < a → Op.bytesLess x y = false ∧ (x == y) = false := by
  intro x
  induction x with
  | nil => intro y i a b _ h _ _; cases h
  | cons c x ih =>
    intro y i a b he hx hy hlt
    cases y with
    | nil => cases hy
    | cons d y =>
      cases i with
      | zero =>
        simp at hx hy
        subst hx; subst hy
        have h1 : ¬ c < d := fun h => absurd (UInt8.lt_trans h hlt) (UInt8.lt_irrefl _)
        have h2 : c ≠ d := fun h => by subst h; exact UInt8.lt_irrefl _ hlt
        unfold Op.bytesLess
        simp [h1, h2]
      | succ i =>
        have h0 := he 0 (by omega)
        simp at h0
        subst h0
        obtain ⟨g1, g2⟩ := ih y i a b (fun j hj => by simpa using he (j + 1) (by omega)) (by simpa using hx) (by simpa using hy) hlt
        have h1 : ¬ c < c := UInt8.lt_irrefl _
        have h3 : x ≠ y := by simpa using g2
        unfold Op.bytesLess
        simp [h1, g1, h3]
theorem ltr_mono (d : Nat) (h : d + 1 < 16) : ltr d < ltr (d + 1) := by
  have : ∀ i : Fin 15, ltr i.val < ltr (i.val + 1) := by decide
  exact this ⟨d, by omega⟩
theorem at'_get {s : ByteArray} {i : Nat} (h : i < s.size) : s.data.toList[i]? = some (at' s i) := by
  unfold at'
  have hl : s.data.toList.length = s.size := by simp
  rw [List.getD_eq_getElem?_getD, List.getElem?_eq_getElem (by omega), Option.getD_some]
theorem nxt_gt {q : Nat} {s : ByteArray} {i : Nat} (h2 : q ≤ 16) (hW : Wd q s s.size) (hi : i < s.size) (hd : dg (at' s i) + 1 < q) :
    Op.bytesLess (nxAt s i).data.toList s.data.toList = false ∧ ((nxAt s i).data.toList == s.data.toList) = false := by
  have h0 := (hW i hi).1
  refine less_false _ _ i (ltr ((dg (at' s i)).toNat + 1)) (at' s i) (fun j hj => ?_) ?_ (at'_get hi) ?_
  · rw [at'_get (by rw [nxAt_size]; omega), at'_get (by omega), nxAt_at (by omega), if_neg (by omega), if_pos (by omega)]
  · rw [at'_get (by rw [nxAt_size]; exact hi), nxAt_at hi, if_pos rfl]
  · have := ltr_mono (dg (at' s i)).toNat (by omega)
    rwa [ltr_dg _ h0] at this
theorem zeros_Wd {q n : Nat} (h1 : 1 ≤ q) : Wd q (⟨(List.replicate n 48).toArray⟩ : ByteArray) n := fun j hj => by
  have : at' (⟨(List.replicate n 48).toArray⟩ : ByteArray) j = 48 := by
    unfold at'
    simp [List.getD_eq_getElem?_getD, hj]
  rw [this, dg_48]
  omega
theorem zeros_size (n : Nat) : (⟨(List.replicate n 48).toArray⟩ : ByteArray).size = n := by
  show ((List.replicate n 48).toArray).size = n
  simp
theorem zeros_rn {q n : Nat} : ∀ k, k ≤ n → rn q (⟨(List.replicate n 48).toArray⟩ : ByteArray) k = 0 := by
  intro k
  induction k with
  | zero => intro _; rfl
  | succ k ih =>
    intro hk
    unfold rn
    have : at' (⟨(List.replicate n 48).toArray⟩ : ByteArray) k = 48 := by
      unfold at'
      simp [List.getD_eq_getElem?_getD, show k < n by omega]
    rw [ih (by omega), this, dg_48]
    simp
theorem chk_of {q : Nat} {s : ByteArray} (h1 : 1 ≤ q) (h2 : q ≤ 16) (hl : s.size ≤ 65536) (h : Wd q s s.size) : chk q s = 0 := by
  unfold chk
  rw [if_pos (by omega), if_neg (by omega), if_pos (by simpa using Wd.ok h)]
/-- What WordNext asks, by numbers. -/
theorem next_law {q : Nat} {s : ByteArray} (h2 : q ≤ 16) (hl : s.size ≤ 24) (hc : chk q s = 0) :
    (∃ t, nextS q s = (t, 0) ∧ t.size = s.size ∧ chk q t = 0 ∧ rk q s s.size = (rn q s s.size : Nat) ∧ rk q t t.size = ((rn q s s.size + 1 : Nat) : Int) ∧ unS q s.size (rn q s s.size) = s ∧ rn q s s.size < q ^ s.size ∧ Op.bytesLess t.data.toList s.data.toList = false ∧ (t.data.toList == s.data.toList) = false) ∨
    (∃ t, nextS q s = (t, 0) ∧ t.size = s.size + 1 ∧ chk q t = 0 ∧ rk q s s.size = (rn q s s.size : Nat) ∧ rk q t t.size = 0 ∧ unS q s.size (rn q s s.size) = s ∧ rn q s s.size < q ^ s.size ∧ ¬ rn q s s.size + 1 < q ^ s.size) := by
  obtain ⟨h1, _, _, hw⟩ := chk_ok hc
  have h1 : 1 ≤ q := by omega
  have hW : Wd q s s.size := Wd.of (by simpa using hw)
  have hN : nextS q s = match nxI q s with
      | some i => (nxAt s i, 0)
      | none => if s.size = 65536 then (⟨#[]⟩, 4) else (⟨(List.replicate (s.size + 1) 48).toArray⟩, 0) := by
    unfold nextS; rw [if_pos hc, Int.toNat_natCast]
    rfl
  rcases nxI_ways q s with ⟨i, h3, h4, h5, h6⟩ | ⟨h3, h4⟩
  · obtain ⟨a, b⟩ := rn_nxt h2 hW h3 h4 h5
    obtain ⟨c, d⟩ := nxt_gt h2 hW h3 h4
    have hs := nxAt_size s i
    refine .inl ⟨nxAt s i, by rw [hN, h6], hs, chk_of h1 h2 (by omega) (by rw [hs]; exact a), rk_rn _ hW, ?_, unS_rn hW, rn_lt _ hW, c, d⟩
    rw [hs, rk_rn _ a, b]
  · refine .inr ⟨_, by rw [hN, h4]; simp only []; rw [if_neg (by omega)], zeros_size _, chk_of h1 h2 (by rw [zeros_size]; omega) (by rw [zeros_size]; exact zeros_Wd h1), rk_rn _ hW, ?_, unS_rn hW, rn_lt _ hW, ?_⟩
    · rw [zeros_size, rk_rn _ (zeros_Wd h1), zeros_rn _ (Nat.le_refl _)]
      rfl
    · have := rn_top hW h3 _ (Nat.le_refl _)
      omega
/-- Once all is divided off, the letters left are 0. -/
theorem un_rest {q n A k j : Nat} (hz : A / q ^ k = 0) (hj : j < n - k) : unD q n A j = 48 := by
  unfold unD
  rw [show n - 1 - j = k + (n - 1 - j - k) by omega, Nat.pow_add, ← Nat.div_div_eq_div_mul, hz, Nat.zero_div, Nat.zero_mod]
  rfl
theorem div_stepP (A q k : Nat) : A / q ^ k / q = A / q ^ (k + 1) := by rw [Nat.div_div_eq_div_mul, Nat.pow_succ]
theorem un_dig {q n A k : Nat} (hk : k < n) : ltr (A / q ^ k % q) = unD q n A (n - 1 - k) := by
  unfold unD
  rw [show n - 1 - (n - 1 - k) = k by omega]
end Go.Proofs.Gv
