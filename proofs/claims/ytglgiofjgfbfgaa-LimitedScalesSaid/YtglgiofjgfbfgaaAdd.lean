/- integer.add: the sum of two naturals. -/
import Derived.Test.YtglgiofjgfbfgaaTrimP
set_option linter.unusedSimpArgs false
set_option linter.unusedVariables false
namespace Go.Proofs.Gv
open Go Go.RowKit

/-- The carry into digit k of x + y. -/
def carry (x y k : Nat) : Nat := (x % B32 ^ k + y % B32 ^ k) / B32 ^ k
theorem carry_zero (x y : Nat) : carry x y 0 = 0 := by simp [carry, Nat.mod_one]
theorem carry_le (x y k : Nat) : carry x y k ≤ 1 := by
  have h1 := Nat.mod_lt x (pow_pos k)
  have h2 := Nat.mod_lt y (pow_pos k)
  unfold carry
  have : (x % B32 ^ k + y % B32 ^ k) / B32 ^ k < 2 := by rw [Nat.div_lt_iff_lt_mul (pow_pos k)]; omega
  omega
theorem carry_sum (x y k : Nat) : D x k + carry x y k + D y k = (x % B32 ^ (k + 1) + y % B32 ^ (k + 1)) / B32 ^ k := by
  rw [mod_succ, mod_succ, show x % B32 ^ k + B32 ^ k * D x k + (y % B32 ^ k + B32 ^ k * D y k) = (x % B32 ^ k + y % B32 ^ k) + B32 ^ k * (D x k + D y k) by rw [Nat.mul_add]; omega]
  rw [Nat.add_mul_div_left _ _ (pow_pos k)]
  unfold carry; omega
theorem carry_next (x y k : Nat) : (D x k + carry x y k + D y k) / B32 = carry x y (k + 1) := by
  rw [carry_sum, Nat.div_div_eq_div_mul, ← Nat.pow_succ]; rfl
theorem carry_digit (x y k : Nat) : (D x k + carry x y k + D y k) % B32 = D (x + y) k := by
  have h : (x % B32 ^ (k + 1) + y % B32 ^ (k + 1)) % B32 ^ (k + 1) = (x + y) % B32 ^ (k + 1) := by rw [← Nat.add_mod]
  unfold D at *
  rw [show x / B32 ^ k % B32 + carry x y k + y / B32 ^ k % B32 = _ from carry_sum x y k]
  have e : ∀ z, z / B32 ^ k % B32 = z % B32 ^ (k + 1) / B32 ^ k := fun z => by rw [Nat.pow_succ, Nat.mod_mul_right_div_self]
  rw [e, e (x + y), h]
theorem carry_nextI (x y k : Nat) : ((D x k : Int) + carry x y k + D y k) / 4294967296 = (carry x y (k + 1) : Nat) := by
  rw [← carry_next]; show _ = (((_ + _ + _) / 4294967296 : Nat) : Int); omega
theorem carry_digitI (x y k : Nat) : ((D x k : Int) + carry x y k + D y k) % 4294967296 = (D (x + y) k : Nat) := by
  rw [← carry_digit]; show _ = (((_ + _ + _) % 4294967296 : Nat) : Int); omega
theorem carry_nextI0 (x : Nat) {y k : Nat} (h : nlen y ≤ k) : ((D x k : Int) + carry x y k) / 4294967296 = (carry x y (k + 1) : Nat) := by
  rw [← carry_nextI, D_high h]; simp
theorem carry_digitI0 (x : Nat) {y k : Nat} (h : nlen y ≤ k) : ((D x k : Int) + carry x y k) % 4294967296 = (D (x + y) k : Nat) := by
  rw [← carry_digitI, D_high h]; simp
theorem carry_last {x y n : Nat} (hx : x < B32 ^ n) (hy : y < B32 ^ n) : carry x y n = D (x + y) n := by
  unfold carry D
  rw [Nat.mod_eq_of_lt hx, Nat.mod_eq_of_lt hy, Nat.mod_eq_of_lt]
  rw [Nat.div_lt_iff_lt_mul (pow_pos n)]
  have : 2 * B32 ^ n ≤ B32 * B32 ^ n := Nat.mul_le_mul_right _ (by decide)
  omega

set_option maxHeartbeats 400000 in
theorem add_any (A A' : Option Addr) (c c' x y : Nat) (w : World) (hx : Nt w w.heap.size A c x) (hy : Nt w w.heap.size A' c' y) (hn : nlen x ≤ 10000000) (hn' : nlen y ≤ 10000000) :
    Calls Try.prog 85 #[.slice A (nlen x) c, .slice A' (nlen y) c'] w (RetNat w (x + y)) := by
  obtain ⟨lx, bx, rx⟩ := hx
  obtain ⟨ly, by', ry⟩ := hy
  go_enter Try.func85, Try.ntmps85
  go_upto_if 13 with fail
  go_cut [0, 1] (fun s0 s1 wx => w = wx ∧ ∃ (X Y : Nat) (A1 A2 : Option Addr) (c1 c2 : Nat), s0 = .slice A1 (nlen X) c1 ∧ s1 = .slice A2 (nlen Y) c2 ∧ Nt w w.heap.size A1 c1 X ∧ Nt w w.heap.size A2 c2 Y ∧ nlen X ≤ 10000000 ∧ nlen Y ≤ nlen X ∧ X + Y = x + y)
  case first =>
    go_wp2
    all_goals go_meet
    · exact ⟨rfl, y, x, A', A, c', c, rfl, rfl, ⟨ly, by', ry⟩, ⟨lx, bx, rx⟩, hn', by omega, Nat.add_comm _ _⟩
    · exact ⟨rfl, x, y, A, A', c, c', rfl, rfl, ⟨lx, bx, rx⟩, ⟨ly, by', ry⟩, hn, by omega, rfl⟩
  case rest =>
  clear hn hn' lx bx rx ly by' ry
  obtain ⟨rfl, X, Y, A1, A2, c1, c2, rfl, rfl, hx, hy, hn1, hge, hs⟩ := hcut
  have Hs := Lib.hid hs
  clear hs
  obtain ⟨lx, bx, rx⟩ := hx
  obtain ⟨ly, by', ry⟩ := hy
  have hmk := mk_nat ((nlen X : Int) + 1) (nlen X + 1) (by omega) (by omega)
  go_wp2
  clear hmk
  obtain ⟨W0, hW0⟩ : ∃ W0, w.alloc (.cells (madeCells #[.int .u32 0] (nlen X + 1)) 68) = W0 := ⟨_, rfl⟩
  have hrow0 : W0.rowIs w.heap.size 68 (nlen X + 1) (u32s fun _ => 0) := by rw [← hW0]; exact made_row w _
  have hb0 : Below w.heap.size w W0 := by rw [← hW0]; exact (Below.refl _ _).alloc (Nat.le_refl _) _
  rw [hW0]
  clear hW0
  go_loopw [6, 22] (fun cr i wr => ∃ k : Nat, k ≤ nlen X ∧ i = .int .i64 k ∧ cr = .int .u64 (carry X Y k : Nat) ∧ wr.rowIs w.heap.size 68 (nlen X + 1) (u32s fun j => if j < k then D (X + Y) j else 0) ∧ Below w.heap.size w wr)
    (fun _ i _ => nlen X - (intOf i).toNat)
  case atStart => exact ⟨0, Nat.zero_le _, rfl, by rw [carry_zero]; rfl, hrow0, hb0⟩
  case round =>
    obtain ⟨k, hk, rfl, rfl, hrow, hb⟩ := hrel
    by_cases hlt : k < nlen X
    · obtain ⟨g, rfl, hg, hcell⟩ := rx (by omega)
      have h1 := hcell k hlt
      have hc1 : wr.cell? ⟨g, k, none⟩ = some (.int .u32 (D X k : Nat)) := (hb.cell (p := ⟨g, k, none⟩) hg).trans h1
      have hd1 := D_lt' X k
      have hd2 := D_lt' Y k
      have hcr := carry_le X Y k
      have hoc := hrow.cell (i := k) (by omega)
      have hof := hrow.frozen k
      clear hcell rx h1
      by_cases hy' : k < nlen Y
      · obtain ⟨g', rfl, hg', hcell'⟩ := ry (by omega)
        have hc2 : wr.cell? ⟨g', k, none⟩ = some (.int .u32 (D Y k : Nat)) := (hb.cell (p := ⟨g', k, none⟩) hg').trans (hcell' k hy')
        clear hcell' ry
        go_wp2
        go_roundw
        case rel => exact ⟨k + 1, by omega, by go_num, by rw [carry_nextI], row_step hrow (carry_digitI X Y k), hb.setCell (p := ⟨w.heap.size, k, none⟩) (Nat.le_refl _) _⟩
        case measure => simp [intOf] <;> omega
      · have hy2 : ¬ (k : Int) < (nlen Y : Int) := by omega
        go_wp2
        go_roundw
        case rel => exact ⟨k + 1, by omega, by go_num, by rw [carry_nextI0 X (by omega)], row_step hrow (carry_digitI0 X (by omega)), hb.setCell (p := ⟨w.heap.size, k, none⟩) (Nat.le_refl _) _⟩
        case measure => simp [intOf] <;> omega
    · obtain rfl : k = nlen X := by omega
      have hoc := hrow.cell (i := nlen X) (by omega)
      have hof := hrow.frozen (nlen X)
      have hcr := carry_le X Y (nlen X)
      have hr2 := row_step (k := nlen X) (F := D (X + Y)) (V := (carry X Y (nlen X) : Nat)) hrow (by rw [carry_last (lt_pow_nlen X) (Nat.lt_of_lt_of_le (lt_pow_nlen Y) (Nat.pow_le_pow_right B32_pos hge))])
      have hz : X + Y < B32 ^ (nlen X + 1) := by
        have h1 := lt_pow_nlen X
        have h2 := Nat.lt_of_lt_of_le (lt_pow_nlen Y) (Nat.pow_le_pow_right B32_pos hge)
        have h3 : 2 * B32 ^ nlen X ≤ B32 * B32 ^ nlen X := Nat.mul_le_mul_right _ (by decide)
        rw [Nat.pow_succ, Nat.mul_comm (B32 ^ nlen X)]
        omega
      have Hr := Lib.hid (row_all hr2)
      have Hb := Lib.hid hb
      have Hz := Lib.hid hz
      clear hz hb hr2 hrow
      go_wp2_with fail
      refine (trim_row Hr.out Hz.out (by omega)).mono ?_
      rintro e w' ⟨rfl, rfl⟩
      go_wp2
      go_ret
      rw [← Hs.out]
      exact RetNat.of_row Hr.out Hz.out (by omega) (Hb.out.setCell (p := ⟨w.heap.size, nlen X, none⟩) (Nat.le_refl _) _)

end Go.Proofs.Gv
