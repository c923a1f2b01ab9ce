/- integer.shift: a number times a power of 2, with one digit more. -/
import Derived.Test.YtlaakomeofldgaaShortP
namespace Go.Proofs.Gv
open Go Go.RowKit

/-- The carry into digit k of x * p. -/
def hc (x p k : Nat) : Nat := x % B32 ^ k * p / B32 ^ k
theorem hc_zero (x p : Nat) : hc x p 0 = 0 := by simp [hc, Nat.mod_one]
theorem hc_lt (x k : Nat) {p : Nat} (hp : 0 < p) : hc x p k < p := by
  unfold hc
  rw [Nat.div_lt_iff_lt_mul (pow_pos k), Nat.mul_comm]
  exact Nat.mul_lt_mul_of_pos_left (Nat.mod_lt _ (pow_pos k)) hp
theorem hc_sum (x p k : Nat) : D x k * p + hc x p k = x % B32 ^ (k + 1) * p / B32 ^ k := by
  rw [mod_succ, Nat.add_mul, Nat.mul_assoc, Nat.add_mul_div_left _ _ (pow_pos k)]
  unfold hc; omega
theorem hc_next (x p k : Nat) : (D x k * p + hc x p k) / B32 = hc x p (k + 1) := by
  rw [hc_sum, Nat.div_div_eq_div_mul, ← Nat.pow_succ]; rfl
theorem hc_digit (x p k : Nat) : (D x k * p + hc x p k) % B32 = D (x * p) k := by
  rw [hc_sum]
  have e : ∀ z, z / B32 ^ k % B32 = z % B32 ^ (k + 1) / B32 ^ k := fun z => by rw [Nat.pow_succ, Nat.mod_mul_right_div_self]
  unfold D
  rw [e, e, Nat.mod_mul_mod]
theorem hc_last {x p n : Nat} (hx : x < B32 ^ n) (hp : p ≤ B32) (h0 : 0 < p) : hc x p n = D (x * p) n := by
  have h := hc_lt x n h0
  unfold hc at h ⊢
  unfold D
  rw [Nat.mod_eq_of_lt hx] at h ⊢
  rw [Nat.mod_eq_of_lt (by omega)]

theorem or_shift {a c n : Nat} (ha : a < 4294967296) (hn : n < 32) (hc : c < 2 ^ n) : bits .or .u64 (((a * 2 ^ n : Nat) : Int)) (c : Int) = ((a * 2 ^ n + c : Nat) : Int) := by
  have h2 : 2 ^ n ≤ 2 ^ 31 := Nat.pow_le_pow_right (by decide) (by omega)
  have h3 : a * 2 ^ n ≤ 4294967296 * 2 ^ 31 := Nat.mul_le_mul (by omega) h2
  rw [u64_or_nat _ _ (by omega) (by omega), nat_join n _ _ (Nat.mul_mod_left _ _) hc]

theorem shl_or {a c n : Nat} (ha : a < 4294967296) (hn : n < 32) (hc : c < 2 ^ n) : bits .or .u64 (IntKind.u64.wrap ((a : Int) * 2 ^ n)) (c : Int) = ((a * 2 ^ n + c : Nat) : Int) := by
  have h2 : 2 ^ n ≤ 2 ^ 31 := Nat.pow_le_pow_right (by decide) (by omega)
  have h3 : a * 2 ^ n ≤ 4294967295 * 2 ^ 31 := Nat.mul_le_mul (by omega) h2
  have e : (a : Int) * 2 ^ n = ((a * 2 ^ n : Nat) : Int) := by simp
  rw [← or_shift ha hn hc, e]
  congr 1
  generalize a * 2 ^ n = p at *
  exact IntWalk.u64_in _ (by omega)

theorem hc_nextI {x k n : Nat} (hn : n < 32) : bits .or .u64 (IntKind.u64.wrap ((D x k : Int) * 2 ^ n)) (hc x (2 ^ n) k : Nat) / 4294967296 = (hc x (2 ^ n) (k + 1) : Nat) := by
  rw [shl_or (D_lt' x k) hn (hc_lt x k (Nat.pow_pos (by decide))), ← hc_next]; rfl
theorem hc_digitI {x k n : Nat} (hn : n < 32) : bits .or .u64 (IntKind.u64.wrap ((D x k : Int) * 2 ^ n)) (hc x (2 ^ n) k : Nat) % 4294967296 = (D (x * 2 ^ n) k : Nat) := by
  rw [shl_or (D_lt' x k) hn (hc_lt x k (Nat.pow_pos (by decide))), ← hc_digit]; rfl

set_option maxHeartbeats 800000 in
theorem shift_any (A : Option Addr) (c x n : Nat) (w : World) (hx : Nt w w.heap.size A c x) (hn : nlen x ≤ 10000000) (hn' : n < 32) :
    Calls Try.prog 110 #[.slice A (nlen x) c, .int .i64 (n : Nat)] w fun e w' =>
      e = .returned (.slice (some ⟨w.heap.size, 0, none⟩) (nlen x + 1) (nlen x + 1)) ∧ w'.rowIs w.heap.size 96 (nlen x + 1) (u32s (D (x * 2 ^ n))) ∧ Below w.heap.size w w' := by
  obtain ⟨lx, bx, rx⟩ := hx
  have hmk := mk_nat ((nlen x : Int) + 1) (nlen x + 1) (by omega) (by omega)
  go_enter Try.func110, Try.ntmps110
  go_wp2
  clear hmk
  obtain ⟨W0, hW0⟩ : ∃ W0, w.alloc (.cells (madeCells #[.int .u32 0] (nlen x + 1)) 96) = W0 := ⟨_, rfl⟩
  have hrow0 : W0.rowIs w.heap.size 96 (nlen x + 1) (u32s fun _ => 0) := by rw [← hW0]; exact made_row w _
  have hb0 : Below w.heap.size w W0 := by rw [← hW0]; exact (Below.refl _ _).alloc (Nat.le_refl _) _
  rw [hW0]
  clear hW0
  go_loopw [6, 16] (fun cr i wr => ∃ k : Nat, k ≤ nlen x ∧ i = .int .i64 k ∧ cr = .int .u64 (hc x (2 ^ n) k : Nat) ∧ wr.rowIs w.heap.size 96 (nlen x + 1) (u32s fun j => if j < k then D (x * 2 ^ n) j else 0) ∧ Below w.heap.size w wr)
    (fun _ i _ => nlen x - (intOf i).toNat)
  case atStart => exact ⟨0, Nat.zero_le _, rfl, by rw [hc_zero]; rfl, hrow0, hb0⟩
  case round =>
    obtain ⟨k, hk, rfl, rfl, hrow, hb⟩ := hrel
    by_cases hlt : k < nlen x
    · obtain ⟨g, rfl, hg, hcell⟩ := rx (by omega)
      have hc1 : wr.cell? ⟨g, k, none⟩ = some (.int .u32 (D x k : Nat)) := (hb.cell (p := ⟨g, k, none⟩) hg).trans (hcell k hlt)
      clear hcell rx
      have hd1 := D_lt' x k
      have hoc := hrow.cell (i := k) (by omega)
      have hof := hrow.frozen k
      go_wp2
      go_roundw
      case rel => exact ⟨k + 1, by omega, by go_num, by rw [hc_nextI hn'], row_step hrow (hc_digitI hn'), hb.setCell (p := ⟨w.heap.size, k, none⟩) (Nat.le_refl _) _⟩
      case measure => simp [intOf] <;> omega
    · obtain rfl : k = nlen x := by omega
      have h2 : 2 ^ n ≤ 2 ^ 31 := Nat.pow_le_pow_right (by decide) (by omega)
      have hoc := hrow.cell (i := nlen x) (by omega)
      have hof := hrow.frozen (nlen x)
      have hcr : hc x (2 ^ n) (nlen x) < 4294967296 := by have := hc_lt x (nlen x) (p := 2 ^ n) (Nat.pow_pos (by decide)); omega
      have hr2 := row_step (k := nlen x) (F := D (x * 2 ^ n)) (V := (hc x (2 ^ n) (nlen x) : Nat)) hrow (by rw [hc_last (lt_pow_nlen x) (by unfold B32; omega) (Nat.pow_pos (by decide))])
      have Hr := Lib.hid (row_all hr2)
      clear hr2 hrow h2
      go_wp2
      go_ret
      exact ⟨rfl, Hr.out, hb.setCell (p := ⟨w.heap.size, nlen x, none⟩) (Nat.le_refl _) _⟩

end Go.Proofs.Gv
