import Derived.Test.YtfhncfphphieiaaGreatAddP
import Derived.Deep.RegionHeld3
import Derived.RegionTactic
set_option maxHeartbeats 1600000
set_option linter.unusedSimpArgs false
set_option linter.unusedVariables false
namespace Go.Proofs.Gv
open Go Go.RowKit
def bw (x y k : Nat) : Nat := if x % B32 ^ k < y % B32 ^ k then 1 else 0
theorem bw_zero (x y : Nat) : bw x y 0 = 0 := by simp [bw, Nat.mod_one]
theorem bw_le (x y k : Nat) : bw x y k ≤ 1 := by unfold bw; split <;> omega
theorem bw_iff (x y k : Nat) : x % B32 ^ (k + 1) < y % B32 ^ (k + 1) ↔ D x k < bw x y k + D y k := by
 have h1 := Nat.mod_lt x (pow_pos k)
 have h2 := Nat.mod_lt y (pow_pos k)
 rw [mod_succ, mod_succ]
 unfold bw
 generalize x % B32 ^ k = a at *
 generalize y % B32 ^ k = b at *
 generalize D x k = dx
 generalize D y k = dy
 generalize B32 ^ k = P at *
 constructor
 ·intro h
  by_cases hab : a < b
  ·rw [if_pos hab]
   apply Classical.byContradiction
   intro hn
   have : P * (dy + 1) ≤ P * dx := Nat.mul_le_mul_left _ (by omega)
   rw [Nat.mul_add] at this
   omega
  ·rw [if_neg hab]
   apply Classical.byContradiction
   intro hn
   have : P * dy ≤ P * dx := Nat.mul_le_mul_left _ (by omega)
   omega
 ·intro h
  by_cases hab : a < b
  ·rw [if_pos hab] at h
   have : P * dx ≤ P * dy := Nat.mul_le_mul_left _ (by omega)
   omega
  ·rw [if_neg hab] at h
   have : P * (dx + 1) ≤ P * dy := Nat.mul_le_mul_left _ (by omega)
   rw [Nat.mul_add] at this
   omega
theorem bw_div {x y : Nat} (h : y ≤ x) (k : Nat) : (((x - y) / B32 ^ k : Nat) : Int) = ((x / B32 ^ k : Nat) : Int) - (y / B32 ^ k : Nat) - bw x y k := by
 have h1 := Nat.mod_lt x (pow_pos k)
 have h2 := Nat.mod_lt y (pow_pos k)
 have e1 := Nat.div_add_mod x (B32 ^ k)
 have e2 := Nat.div_add_mod y (B32 ^ k)
 have hd : y / B32 ^ k ≤ x / B32 ^ k := Nat.div_le_div_right h
 unfold bw
 generalize x % B32 ^ k = a at *
 generalize y % B32 ^ k = b at *
 have hp := pow_pos k
 generalize x / B32 ^ k = qx at *
 generalize y / B32 ^ k = qy at *
 generalize B32 ^ k = P at *
 obtain ⟨u, rfl⟩ : ∃ u, qx = qy + u := ⟨qx - qy, by omega⟩
 rw [Nat.mul_add] at e1
 by_cases hab : a < b
 ·have hu : u ≠ 0 := by rintro rfl; omega
  obtain ⟨v, rfl⟩ : ∃ v, u = v + 1 := ⟨u - 1, by omega⟩
  have : (x - y) / P = v := by
   apply Nat.div_eq_of_lt_le
   ·rw [Nat.mul_comm]; rw [Nat.mul_add] at e1; omega
   ·rw [Nat.mul_comm, Nat.mul_add]; rw [Nat.mul_add] at e1; omega
  rw [this, if_pos hab]; omega
 ·have : (x - y) / P = u := by
   apply Nat.div_eq_of_lt_le
   ·rw [Nat.mul_comm]; omega
   ·rw [Nat.mul_comm, Nat.mul_add]; omega
  rw [this, if_neg hab]; omega
theorem bw_digit {x y : Nat} (h : y ≤ x) (k : Nat) : ((D (x - y) k : Nat) : Int) = ((D x k : Int) - bw x y k - D y k) % 4294967296 := by
 have e := bw_div h k
 unfold D
 show (((x - y) / B32 ^ k % 4294967296 : Nat) : Int) = (((x / B32 ^ k % 4294967296 : Nat) : Int) - bw x y k - ((y / B32 ^ k % 4294967296 : Nat) : Int)) % 4294967296
 omega
theorem bw_neg {x y k : Nat} {e : Int} (h : y ≤ x) (he : e = (D y k : Nat)) (hneg : (D x k : Int) - bw x y k - e < 0) :
  bw x y (k + 1) = 1 ∧ (D x k : Int) - bw x y k - e + 4294967296 = (D (x - y) k : Nat) := by
 subst he
 have h1 := D_lt' x k
 have h2 := D_lt' y k
 have h3 := bw_le x y k
 refine ⟨?_, by rw [bw_digit h]; omega⟩
 have := (bw_iff x y k).2 (by omega)
 unfold bw; rw [if_pos this]
theorem bw_nn {x y k : Nat} {e : Int} (h : y ≤ x) (he : e = (D y k : Nat)) (hneg : ¬ (D x k : Int) - bw x y k - e < 0) :
  bw x y (k + 1) = 0 ∧ (D x k : Int) - bw x y k - e = (D (x - y) k : Nat) := by
 subst he
 have h1 := D_lt' x k
 have h2 := D_lt' y k
 have h3 := bw_le x y k
 refine ⟨?_, by rw [bw_digit h]; omega⟩
 have := mt (bw_iff x y k).1 (by omega)
 unfold bw; rw [if_neg this]
theorem subtract_any (A A' : Option Addr) (c c' x y : Nat) (w : World) (hx : Nt w w.heap.size A c x) (hy : Nt w w.heap.size A' c' y) (hn : nlen x ≤ 10000000) (hyx : y ≤ x) :
  Calls Tryz.prog 96 #[.slice A (nlen x) c, .slice A' (nlen y) c'] w (RetNat w (x - y)) := by
 have hge := nlen_mono hyx
 obtain ⟨lx, bx, rx⟩ := hx
 obtain ⟨ly, by', ry⟩ := hy
 have hmk := mk_nat (nlen x) (nlen x) rfl (by omega)
 go_enter Tryz.func96, Tryz.ntmps96
 go_wp2
 clear hmk
 obtain ⟨W0, hW0⟩ : ∃ W0, w.alloc (.cells (madeCells #[.int .u32 0] (nlen x)) 74) = W0 := ⟨_, rfl⟩
 have hrow0 : W0.rowIs w.heap.size 74 (nlen x) (u32s fun _ => 0) := by rw [← hW0]; exact made_row w _
 have hb0 : Below w.heap.size w W0 := by rw [← hW0]; exact (Below.refl _ _).alloc (Nat.le_refl _) _
 rw [hW0]
 clear hW0
 go_loopw [6, 14] (fun cr i wr => ∃ k : Nat, k ≤ nlen x ∧ i = .int .i64 k ∧ cr = .int .i64 (bw x y k : Nat) ∧ wr.rowIs w.heap.size 74 (nlen x) (u32s fun j => if j < k then D (x - y) j else 0) ∧ Below w.heap.size w wr)
  (fun _ i _ => nlen x - (intOf i).toNat)
 case atStart => exact ⟨0, Nat.zero_le _, rfl, by rw [bw_zero]; rfl, hrow0, hb0⟩
 case round =>
  obtain ⟨k, hk, rfl, rfl, hrow, hb⟩ := hrel
  by_cases hlt : k < nlen x
  ·obtain ⟨g, rfl, hg, hcell⟩ := rx (by omega)
   have h1 := hcell k hlt
   have hc1 : wr.cell? ⟨g, k, none⟩ = some (.int .u32 (D x k : Nat)) := (hb.cell (p := ⟨g, k, none⟩) hg).trans h1
   have hd1 := D_lt' x k
   have hd2 := D_lt' y k
   have hcr := bw_le x y k
   have hoc := hrow.cell (i := k) (by omega)
   have hof := hrow.frozen k
   clear hcell rx h1
   by_cases hy' : k < nlen y
   ·obtain ⟨g', rfl, hg', hcell'⟩ := ry (by omega)
    have hc2 : wr.cell? ⟨g', k, none⟩ = some (.int .u32 (D y k : Nat)) := (hb.cell (p := ⟨g', k, none⟩) hg').trans (hcell' k hy')
    clear hcell' ry
    by_cases hneg : (D x k : Int) - bw x y k - D y k < 0
    ·have Hs := Lib.hid (bw_neg hyx rfl hneg)
     go_wp2
     go_roundw
     case rel => exact ⟨k + 1, by omega, by go_num, by rw [Hs.out.1]; rfl, row_step hrow Hs.out.2, hb.setCell (p := ⟨w.heap.size, k, none⟩) (Nat.le_refl _) _⟩
     case measure => simp [intOf] <;> omega
    ·have Hs := Lib.hid (bw_nn hyx rfl hneg)
     go_wp2
     go_roundw
     case rel => exact ⟨k + 1, by omega, by go_num, by rw [Hs.out.1]; rfl, row_step hrow Hs.out.2, hb.setCell (p := ⟨w.heap.size, k, none⟩) (Nat.le_refl _) _⟩
     case measure => simp [intOf] <;> omega
   ·have hy2 : ¬ (k : Int) < (nlen y : Int) := by omega
    have hD0 : D y k = 0 := D_high (by omega)
    by_cases hneg : (D x k : Int) - bw x y k < 0
    ·have Hs := Lib.hid (bw_neg (e := 0) hyx (by rw [hD0]; rfl) (by omega))
     clear hD0
     go_wp2
     go_roundw
     case rel => exact ⟨k + 1, by omega, by go_num, by rw [Hs.out.1]; rfl, row_step hrow (by rw [← Hs.out.2]; omega), hb.setCell (p := ⟨w.heap.size, k, none⟩) (Nat.le_refl _) _⟩
     case measure => simp [intOf] <;> omega
    ·have Hs := Lib.hid (bw_nn (e := 0) hyx (by rw [hD0]; rfl) (by omega))
     clear hD0
     go_wp2
     go_roundw
     case rel => exact ⟨k + 1, by omega, by go_num, by rw [Hs.out.1]; rfl, row_step hrow (by rw [← Hs.out.2]; omega), hb.setCell (p := ⟨w.heap.size, k, none⟩) (Nat.le_refl _) _⟩
     case measure => simp [intOf] <;> omega
  ·obtain rfl : k = nlen x := by omega
   have hz : x - y < B32 ^ nlen x := by have := lt_pow_nlen x; omega
   have Hr := Lib.hid (row_all hrow)
   have Hb := Lib.hid hb
   have Hz := Lib.hid hz
   clear hz hb hrow
   go_wp2_with fail
   refine (trim_row Hr.out Hz.out (by omega)).mono ?_
   rintro e w' ⟨rfl, rfl⟩
   go_wp2
   go_ret
   exact RetNat.of_row Hr.out Hz.out (by omega) Hb.out
def mc (x y i k : Nat) : Nat := ((x % B32 ^ i * y) % B32 ^ (i + k) + D x i * (y % B32 ^ k) * B32 ^ i) / B32 ^ (i + k)
theorem mc_zero (x y i : Nat) : mc x y i 0 = 0 := by
 unfold mc
 rw [Nat.pow_zero, Nat.mod_one, Nat.add_zero, Nat.mul_zero, Nat.zero_mul, Nat.add_zero]
 exact Nat.div_eq_of_lt (Nat.mod_lt _ (pow_pos _))
theorem mc_lt (x y i k : Nat) : mc x y i k < B32 := by
 unfold mc
 rw [Nat.div_lt_iff_lt_mul (pow_pos _)]
 have h1 := Nat.mod_lt (x % B32 ^ i * y) (pow_pos (i + k))
 have h2 : y % B32 ^ k * B32 ^ i ≤ B32 ^ (i + k) := by
  rw [Nat.pow_add, Nat.mul_comm (B32 ^ i)]
  exact Nat.mul_le_mul_right _ (Nat.le_of_lt (Nat.mod_lt _ (pow_pos k)))
 have h3 : D x i * (y % B32 ^ k) * B32 ^ i ≤ D x i * B32 ^ (i + k) := by
  rw [Nat.mul_assoc]; exact Nat.mul_le_mul_left _ h2
 have h4 : (D x i + 1) * B32 ^ (i + k) ≤ B32 * B32 ^ (i + k) := Nat.mul_le_mul_right _ (D_lt x i)
 rw [Nat.add_mul] at h4
 omega
theorem mc_sum (x y i k : Nat) : D x i * D y k + D (x % B32 ^ i * y) (i + k) + mc x y i k =
  ((x % B32 ^ i * y) % B32 ^ (i + (k + 1)) + D x i * (y % B32 ^ (k + 1)) * B32 ^ i) / B32 ^ (i + k) := by
 have e : (x % B32 ^ i * y) % B32 ^ (i + (k + 1)) + D x i * (y % B32 ^ (k + 1)) * B32 ^ i =
   ((x % B32 ^ i * y) % B32 ^ (i + k) + D x i * (y % B32 ^ k) * B32 ^ i) + B32 ^ (i + k) * (D (x % B32 ^ i * y) (i + k) + D x i * D y k) := by
  rw [← Nat.add_assoc, mod_succ (x % B32 ^ i * y) (i + k), mod_succ y k, Nat.mul_add, Nat.add_mul, Nat.mul_add,
   show D x i * (B32 ^ k * D y k) * B32 ^ i = B32 ^ (i + k) * (D x i * D y k) by
    rw [Nat.pow_add]; simp only [Nat.mul_assoc, Nat.mul_left_comm, Nat.mul_comm]]
  omega
 rw [e, Nat.add_mul_div_left _ _ (pow_pos _)]
 unfold mc; omega
theorem mc_next (x y i k : Nat) : (D x i * D y k + D (x % B32 ^ i * y) (i + k) + mc x y i k) / B32 = mc x y i (k + 1) := by
 rw [mc_sum, Nat.div_div_eq_div_mul, ← Nat.pow_succ]; rfl
theorem row_eq (x y i : Nat) : x % B32 ^ (i + 1) * y = x % B32 ^ i * y + D x i * y * B32 ^ i := by
 rw [mod_succ, Nat.add_mul]
 congr 1
 simp only [Nat.mul_assoc, Nat.mul_left_comm, Nat.mul_comm]
theorem mc_digit (x y i k : Nat) : (D x i * D y k + D (x % B32 ^ i * y) (i + k) + mc x y i k) % B32 = D (x % B32 ^ (i + 1) * y) (i + k) := by
 rw [mc_sum]
 have e : ∀ z, z / B32 ^ (i + k) % B32 = z % B32 ^ (i + k + 1) / B32 ^ (i + k) := fun z => by rw [Nat.pow_succ, Nat.mod_mul_right_div_self]
 unfold D
 rw [e, e]
 congr 1
 rw [show i + (k + 1) = i + k + 1 from rfl]
 rw [show (x / B32 ^ i % B32) = D x i from rfl, row_eq]
 have h : D x i * y * B32 ^ i = D x i * (y % B32 ^ (k + 1)) * B32 ^ i + B32 ^ (i + k + 1) * (D x i * (y / B32 ^ (k + 1))) := by
  conv => lhs; rw [← Nat.mod_add_div y (B32 ^ (k + 1))]
  rw [Nat.mul_add, Nat.add_mul]
  congr 1
  rw [show i + k + 1 = i + (k + 1) from rfl, Nat.pow_add B32 i (k + 1)]
  generalize y / B32 ^ (k + 1) = q
  generalize B32 ^ (k + 1) = Q
  simp only [Nat.mul_assoc, Nat.mul_left_comm, Nat.mul_comm]
 rw [h, ← Nat.add_assoc, Nat.add_mul_mod_self_left, Nat.add_mod, Nat.mod_mod, ← Nat.add_mod]
theorem mul_lt_pow {a b m n : Nat} (ha : a < B32 ^ m) (hb : b < B32 ^ n) : a * b < B32 ^ (m + n) := by
 rw [Nat.pow_add]
 exact Nat.mul_lt_mul_of_lt_of_le ha (Nat.le_of_lt hb) (pow_pos n)
theorem mc_last {x y i m : Nat} (hy : y < B32 ^ m) : mc x y i m = D (x % B32 ^ (i + 1) * y) (i + m) := by
 have h1 : x % B32 ^ i * y < B32 ^ (i + m) := mul_lt_pow (Nat.mod_lt _ (pow_pos i)) hy
 have h2 : x % B32 ^ (i + 1) * y < B32 ^ (i + 1 + m) := mul_lt_pow (Nat.mod_lt _ (pow_pos _)) hy
 unfold mc
 rw [Nat.mod_eq_of_lt h1, Nat.mod_eq_of_lt hy, ← row_eq]
 have h3 : x % B32 ^ (i + 1) * y / B32 ^ (i + m) < B32 := by
  rw [Nat.div_lt_iff_lt_mul (pow_pos _), Nat.mul_comm B32, ← Nat.pow_succ, show (i + m).succ = i + 1 + m by omega]; exact h2
 unfold D
 rw [Nat.mod_eq_of_lt h3]
theorem mc_nextI (x y i k : Nat) : ((D x i : Int) * D y k + D (x % B32 ^ i * y) (i + k) + mc x y i k) / 4294967296 = (mc x y i (k + 1) : Nat) := by
 rw [← mc_next, ← Int.natCast_mul]
 generalize D x i * D y k = p
 show _ = (((_ + _ + _) / 4294967296 : Nat) : Int); omega
theorem mc_digitI (x y i k : Nat) : ((D x i : Int) * D y k + D (x % B32 ^ i * y) (i + k) + mc x y i k) % 4294967296 = (D (x % B32 ^ (i + 1) * y) (i + k) : Nat) := by
 rw [← mc_digit, ← Int.natCast_mul]
 generalize D x i * D y k = p
 show _ = (((_ + _ + _) % 4294967296 : Nat) : Int); omega
theorem prod_le {a b : Nat} (ha : a < 4294967296) (hb : b < 4294967296) : (a : Int) * b ≤ 18446744065119617025 ∧ 0 ≤ (a : Int) * b := by
 have h : a * b ≤ 4294967295 * 4294967295 := Nat.mul_le_mul (by omega) (by omega)
 rw [← Int.natCast_mul]
 generalize a * b = p at *
 omega
theorem row_low (x y : Nat) {i j : Nat} (h : j < i) : D (x % B32 ^ (i + 1) * y) j = D (x % B32 ^ i * y) j := by
 rw [row_eq]
 obtain ⟨m, rfl⟩ : ∃ m, i = j + 1 + m := ⟨i - (j + 1), by omega⟩
 unfold D
 rw [show x / B32 ^ (j + 1 + m) % B32 * y * B32 ^ (j + 1 + m) = x / B32 ^ (j + 1 + m) % B32 * y * B32 ^ m * B32 * B32 ^ j by
  rw [show j + 1 + m = (m + 1) + j by omega, Nat.pow_add B32 (m + 1) j, Nat.pow_succ B32 m]
  generalize x / (B32 ^ m * B32 * B32 ^ j) % B32 * y = q
  simp only [Nat.mul_assoc]]
 rw [Nat.add_mul_div_right _ _ (pow_pos _), Nat.add_mul_mod_self_right]
theorem row_next {w : World} {g t N x y i : Nat} (h : w.rowIs g t N (u32s fun j => if j < i + nlen y + 1 then D (x % B32 ^ (i + 1) * y) j else D (x % B32 ^ i * y) j)) :
  w.rowIs g t N (u32s (D (x % B32 ^ (i + 1) * y))) :=
 h.congr fun j _ => by
  unfold u32s; dsimp only
  by_cases e : j < i + nlen y + 1
  ·rw [if_pos e]
  ·rw [if_neg e]
   have h1 : x % B32 ^ i * y < B32 ^ (i + nlen y) := mul_lt_pow (Nat.mod_lt _ (pow_pos i)) (lt_pow_nlen y)
   have h2 : x % B32 ^ (i + 1) * y < B32 ^ (i + 1 + nlen y) := mul_lt_pow (Nat.mod_lt _ (pow_pos _)) (lt_pow_nlen y)
   rw [D_high (x := x % B32 ^ i * y) (Nat.le_trans (nlen_le_iff.2 h1) (by omega)), D_high (Nat.le_trans (nlen_le_iff.2 h2) (by omega))]
theorem multiply_any (A A' : Option Addr) (c c' x y : Nat) (w : World) (hx : Nt w w.heap.size A c x) (hy : Nt w w.heap.size A' c' y) (hn : nlen x ≤ 10000000) (hn' : nlen y ≤ 10000000) :
  Calls Tryz.prog 97 #[.slice A (nlen x) c, .slice A' (nlen y) c'] w (RetNat w (x * y)) := by
 obtain ⟨lx, bx, rx⟩ := hx
 obtain ⟨ly, by', ry⟩ := hy
 by_cases h0 : nlen x = 0
 ·have e : x = 0 := nlen_eq_zero.1 h0
  have hz : x * y = 0 := by rw [e, Nat.zero_mul]
  rw [h0, hz]
  clear hz e h0
  go_enter Tryz.func97, Tryz.ntmps97
  go_wp2
  go_ret
  exact ⟨none, 0, by rw [nlen_zero]; rfl, Nt.zero _ _ _ _ (by omega), Below.refl _ _⟩
 by_cases h0' : nlen y = 0
 ·have e : y = 0 := nlen_eq_zero.1 h0'
  have hz : x * y = 0 := by rw [e, Nat.mul_zero]
  rw [h0', hz]
  have h1 : ((nlen x : Int) == 0) = false := by rw [beq_eq_false_iff_ne]; omega
  clear hz e h0'
  go_enter Tryz.func97, Tryz.ntmps97
  go_wp2
  go_ret
  exact ⟨none, 0, by rw [nlen_zero]; rfl, Nt.zero _ _ _ _ (by omega), Below.refl _ _⟩
 have t1 : ((nlen x : Int) == 0) = false := by rw [beq_eq_false_iff_ne]; omega
 have t2 : ((nlen y : Int) == 0) = false := by rw [beq_eq_false_iff_ne]; omega
 have hmk := mk_nat ((nlen x : Int) + nlen y) (nlen x + nlen y) (by omega) (by omega)
 go_enter Tryz.func97, Tryz.ntmps97
 go_wp2
 clear hmk
 obtain ⟨W0, hW0⟩ : ∃ W0, w.alloc (.cells (madeCells #[.int .u32 0] (nlen x + nlen y)) 74) = W0 := ⟨_, rfl⟩
 have hrow0 : W0.rowIs w.heap.size 74 (nlen x + nlen y) (u32s fun _ => 0) := by rw [← hW0]; exact made_row w _
 have hb0 : Below w.heap.size w W0 := by rw [← hW0]; exact (Below.refl _ _).alloc (Nat.le_refl _) _
 rw [hW0]
 clear hW0
 obtain ⟨gx, rfl, hgx, hcx⟩ := rx (by omega)
 obtain ⟨gy, rfl, hgy, hcy⟩ := ry (by omega)
 clear rx ry
 go_loopw [28] (fun i wr => ∃ k : Nat, k ≤ nlen x ∧ i = .int .i64 k ∧ wr.rowIs w.heap.size 74 (nlen x + nlen y) (u32s (D (x % B32 ^ k * y))) ∧ Below w.heap.size w wr)
  (fun i _ => nlen x - (intOf i).toNat)
 case atStart => exact ⟨0, Nat.zero_le _, rfl, hrow0.congr (fun i _ => by simp [u32s, Nat.mod_one, D_zero]), hb0⟩
 case round =>
  obtain ⟨i, hi, rfl, hrow, hb⟩ := hrel
  obtain ⟨wo, rfl⟩ : ∃ wo : World, wo = wr := ⟨_, rfl⟩
  by_cases hlt : i < nlen x
  ·have hc1 : wo.cell? ⟨gx, i, none⟩ = some (.int .u32 (D x i : Nat)) := (hb.cell (p := ⟨gx, i, none⟩) hgx).trans (hcx i hlt)
   have hd1 := D_lt' x i
   go_wp2
   go_loopw [8, 35] (fun cr j wr => ∃ k : Nat, k ≤ nlen y ∧ j = .int .i64 k ∧ cr = .int .u64 (mc x y i k : Nat) ∧ wr.rowIs w.heap.size 74 (nlen x + nlen y) (u32s fun j => if j < i + k then D (x % B32 ^ (i + 1) * y) j else D (x % B32 ^ i * y) j) ∧ Below w.heap.size w wr)
    (fun _ j _ => nlen y - (intOf j).toNat)
   case atStart => exact ⟨0, Nat.zero_le _, rfl, by rw [mc_zero]; rfl, hrow.congr (fun j _ => by
    unfold u32s; dsimp only
    by_cases e : j < i + 0
    ·rw [if_pos e, row_low x y (i := i) e]
    ·rw [if_neg e]), hb⟩
   case round =>
    obtain ⟨k, hk, rfl, rfl, hrow', hb'⟩ := hrel
    by_cases hlt' : k < nlen y
    ·have hc2 : wr.cell? ⟨gy, k, none⟩ = some (.int .u32 (D y k : Nat)) := (hb'.cell (p := ⟨gy, k, none⟩) hgy).trans (hcy k hlt')
     have hd2 := D_lt' y k
     have hd3 := D_lt' (x % B32 ^ i * y) (i + k)
     have hd4 : mc x y i k < 4294967296 := mc_lt x y i k
     obtain ⟨hp1, hp2⟩ := prod_le hd1 hd2
     have hoc : wr.cell? ⟨w.heap.size, i + k, none⟩ = some (.int .u32 (D (x % B32 ^ i * y) (i + k) : Nat)) := by
      rw [hrow'.cell (i := i + k) (by omega)]; simp [u32s]
     have hof := hrow'.frozen (i + k)
     go_wp2
     go_roundw
     case rel => exact ⟨k + 1, by omega, by go_num, by rw [mc_nextI], row_step (k := i + k) hrow' (mc_digitI x y i k), hb'.setCell (p := ⟨w.heap.size, i + k, none⟩) (Nat.le_refl _) _⟩
     case measure => simp [intOf] <;> omega
    ·obtain rfl : k = nlen y := by omega
     have hoc : wr.cell? ⟨w.heap.size, i + nlen y, none⟩ = some (.int .u32 (D (x % B32 ^ i * y) (i + nlen y) : Nat)) := by
      rw [hrow'.cell (i := i + nlen y) (by omega)]; simp [u32s]
     have hof := hrow'.frozen (i + nlen y)
     have hd4 : mc x y i (nlen y) < 4294967296 := mc_lt x y i (nlen y)
     have hr2 := row_next (row_step (k := i + nlen y) (V := (mc x y i (nlen y) : Nat)) hrow' (by rw [mc_last (lt_pow_nlen y)]))
     go_wp2
     go_roundw
     case rel => exact ⟨i + 1, by omega, by go_num, hr2, hb'.setCell (p := ⟨w.heap.size, i + nlen y, none⟩) (Nat.le_refl _) _⟩
     case measure => simp [intOf] <;> omega
  ·obtain rfl : i = nlen x := by omega
   have hz : x * y < B32 ^ (nlen x + nlen y) := mul_lt_pow (lt_pow_nlen x) (lt_pow_nlen y)
   have hr : wo.rowIs w.heap.size 74 (nlen x + nlen y) (u32s (D (x * y))) := by rwa [Nat.mod_eq_of_lt (lt_pow_nlen x)] at hrow
   have Hr := Lib.hid hr
   have Hb := Lib.hid hb
   have Hz := Lib.hid hz
   clear hz hb hrow hr
   go_wp2_with fail
   refine (trim_row Hr.out Hz.out (by omega)).mono ?_
   rintro e w' ⟨rfl, rfl⟩
   go_wp2
   go_ret
   exact RetNat.of_row Hr.out Hz.out (by omega) Hb.out
theorem mul_sign (na nb : Bool) (x y : Nat) : (if na then -(x : Int) else x) * (if nb then -(y : Int) else y) = if !(na == nb) then -((x * y : Nat) : Int) else ((x * y : Nat) : Int) := by
 cases na <;> cases nb <;> simp [Int.neg_mul, Int.mul_neg]
theorem Mul_any (na nb : Bool) (sa sb : ByteArray) (w : World) (ha : sa.size ≤ 15000000) (hb : sb.size ≤ 15000000) :
  Calls Tryz.prog 68 #[.agg #[.bool na, .string sa], .agg #[.bool nb, .string sb]] w (RetI w (iv na sa * iv nb sb)) := by
 have l1 := nlen_bv (s := sa)
 have l2 := nlen_bv (s := sb)
 have l3 : nlen (bv sa.data.toList * bv sb.data.toList) ≤ nlen (bv sa.data.toList) + nlen (bv sb.data.toList) := nlen_le_iff.2 (mul_lt_pow (lt_pow_nlen _) (lt_pow_nlen _))
 go_enter Tryz.func68, Tryz.ntmps68
 go_wp2
 obtain ⟨W, hW⟩ : ∃ W, ((w.alloc (.cells #[.bool na, .string sa] 36)).alloc (.cells #[.bool nb, .string sb] 36)).alloc (.cells #[.bool false, .string ⟨#[]⟩] 36) = W := ⟨_, rfl⟩
 have HO := Lib.hid (Own.three w (.cells #[.bool na, .string sa] 36) (.cells #[.bool nb, .string sb] 36) (.cells #[.bool false, .string ⟨#[]⟩] 36))
 rw [hW] at HO ⊢
 clear hW
 obtain ⟨a0, a1, a2, a3, a4⟩ := HO.out.blk 0 w.heap.size rfl rfl
 obtain ⟨b0, b1, b2, b3, b4⟩ := HO.out.blk 1 (w.heap.size + 1) rfl rfl
 obtain ⟨c0, c1, c2, c3, c4⟩ := HO.out.blk 2 (w.heap.size + 1 + 1) rfl rfl
 have ne1 : ¬ w.heap.size = w.heap.size + 1 + 1 := by omega
 have ne2 : ¬ w.heap.size + 1 + 1 = w.heap.size := by omega
 go_region_held3 (fun w' => w'.cell? ⟨w.heap.size, 0, none⟩ = some (.bool na) ∧ w'.cell? ⟨w.heap.size, 1, none⟩ = some (.string sa) ∧ w'.cell? ⟨w.heap.size + 1, 0, none⟩ = some (.bool nb) ∧ w'.cell? ⟨w.heap.size + 1, 1, none⟩ = some (.string sb)) (go_keep) (first
  | (go_at_call_of 73 (Value.agg #[.bool na, .string sa]); refine (digits_any na sa _ (by omega)).mono ?_; rintro e w1 ⟨A, c, rfl, hn, hb⟩; have HO1 := Lib.hid (HO.out.next hb); obtain ⟨k0, k1, k2, k3, k4⟩ := HO1.out.blk 0 w.heap.size rfl rfl; obtain ⟨l0, l1, l2, l3, l4⟩ := HO1.out.blk 1 (w.heap.size + 1) rfl rfl; have Hn1 := Lib.hid hn; clear hb hn)
  | (go_at_call_of 73 (Value.agg #[.bool nb, .string sb]); refine (digits_any nb sb _ (by omega)).mono ?_; rintro e w2 ⟨A', c', rfl, hn, hb⟩; have HO2 := Lib.hid (HO1.out.next hb); obtain ⟨m0, m1, m2, m3, m4⟩ := HO2.out.blk 0 w.heap.size rfl rfl; obtain ⟨n0, n1, n2, n3, n4⟩ := HO2.out.blk 1 (w.heap.size + 1) rfl rfl; have Hn2 := Lib.hid hn; have Hn3 := Lib.hid (Hn1.out.next hb); clear hb hn)
  | (go_at_call 97; refine (multiply_any A A' c c' _ _ _ Hn3.out Hn2.out (by omega) (by omega)).mono ?_; rintro e w3 ⟨A3, c3, rfl, hn, hb⟩; have HO3 := Lib.hid (HO2.out.next hb); obtain ⟨p0, p1, p2, p3, p4⟩ := HO3.out.blk 0 w.heap.size rfl rfl; obtain ⟨q0, q1, q2, q3, q4⟩ := HO3.out.blk 1 (w.heap.size + 1) rfl rfl; have Hn4 := Lib.hid hn; clear hb hn)
  | (go_at_call 40; refine (number_nt _ A3 c3 _ _ Hn4.out (by omega)).mono ?_; rintro e w4 ⟨rfl, hb2⟩; have HO4 := Lib.hid (HO3.out.next hb2); obtain ⟨r0, r1, r2, r3, r4⟩ := HO4.out.blk 0 w.heap.size rfl rfl; obtain ⟨s0, s1, s2, s3, s4⟩ := HO4.out.blk 1 (w.heap.size + 1) rfl rfl; obtain ⟨j0, j1, j2, j3, j4⟩ := HO4.out.blk 2 (w.heap.size + 1 + 1) rfl rfl; clear hb2))
 all_goals go_wp2
 refine bodyPost_ret (v := .agg #[.bool (sg (!(na == nb)) (bv sa.data.toList * bv sb.data.toList)), .string (mg (bv sa.data.toList * bv sb.data.toList))]) (by simp [results, Tryz.results68, go_sem, j0, j1]) rfl ?_
 refine RetInt.toI ⟨rfl, ?_⟩ (by unfold iv; exact mul_sign na nb _ _)
 exact HO4.out.stored (w.heap.size + 1 + 1) (by omega) _ _
def sr (x y m : Nat) : Nat := x / B32 ^ m % y
theorem sr_step (x m : Nat) {y : Nat} (hy : 0 < y) : (sr x y (m + 1) * B32 + D x m) % y = sr x y m := by
 unfold sr
 rw [div_step x m, Nat.add_mod, Nat.mod_mul_mod, ← Nat.add_mod]
theorem sr_digit (x m : Nat) {y : Nat} (hy : 0 < y) : (sr x y (m + 1) * B32 + D x m) / y = D (x / y) m := by
 have h1 : sr x y (m + 1) < y := Nat.mod_lt _ hy
 have h2 := D_lt x m
 have h3 : (sr x y (m + 1) * B32 + D x m) / y < B32 := by
  rw [Nat.div_lt_iff_lt_mul hy]
  have : (sr x y (m + 1) + 1) * B32 ≤ y * B32 := Nat.mul_le_mul_right _ h1
  rw [Nat.add_mul] at this
  rw [Nat.mul_comm B32]
  omega
 rw [show D (x / y) m = x / y / B32 ^ m % B32 from rfl]
 rw [Nat.div_div_eq_div_mul, Nat.mul_comm y, ← Nat.div_div_eq_div_mul, div_step x m]
 have e : x / B32 ^ (m + 1) * B32 + D x m = (sr x y (m + 1) * B32 + D x m) + y * (x / B32 ^ (m + 1) / y * B32) := by
  unfold sr
  conv => lhs; rw [← Nat.mod_add_div (x / B32 ^ (m + 1)) y]
  rw [Nat.add_mul, Nat.mul_assoc]; omega
 rw [e, Nat.add_mul_div_left _ _ hy, Nat.add_mul_mod_self_right, Nat.mod_eq_of_lt h3]
def RetShort (w : World) (q r : Nat) (e : Ending) (w' : World) : Prop :=
 ∃ A c, e = .returned (.tuple #[.slice A (nlen q) c, .int .u32 (r : Nat)]) ∧ Nt w' w'.heap.size A c q ∧ Below w.heap.size w w'
theorem short_any (A : Option Addr) (c x y : Nat) (w : World) (hx : Nt w w.heap.size A c x) (hn : nlen x ≤ 10000000) (hy : 0 < y) (hy' : y < 4294967296) :
  Calls Tryz.prog 126 #[.slice A (nlen x) c, .int .u32 (y : Nat)] w (RetShort w (x / y) (x % y)) := by
 obtain ⟨lx, bx, rx⟩ := hx
 have hmk := mk_nat (nlen x) (nlen x) rfl (by omega)
 go_enter Tryz.func126, Tryz.ntmps126
 go_wp2
 clear hmk
 obtain ⟨W0, hW0⟩ : ∃ W0, w.alloc (.cells (madeCells #[.int .u32 0] (nlen x)) 74) = W0 := ⟨_, rfl⟩
 have hrow0 : W0.rowIs w.heap.size 74 (nlen x) (u32s fun _ => 0) := by rw [← hW0]; exact made_row w _
 have hb0 : Below w.heap.size w W0 := by rw [← hW0]; exact (Below.refl _ _).alloc (Nat.le_refl _) _
 rw [hW0]
 clear hW0
 go_loopw [7, 8] (fun r i wr => ∃ m : Nat, m ≤ nlen x ∧ i = .int .i64 ((m : Int) - 1) ∧ r = .int .u64 (sr x y m : Nat) ∧ wr.rowIs w.heap.size 74 (nlen x) (u32s fun j => if m ≤ j then D (x / y) j else 0) ∧ Below w.heap.size w wr)
  (fun _ i _ => (intOf i + 1).toNat)
 case atStart => exact ⟨nlen x, Nat.le_refl _, rfl, by rw [show sr x y (nlen x) = 0 by unfold sr; rw [Nat.div_eq_of_lt (lt_pow_nlen x), Nat.zero_mod]]; rfl, hrow0.congr (fun i hi => by unfold u32s; dsimp only; rw [if_neg (by omega)]), hb0⟩
 case round =>
  obtain ⟨m, hm, rfl, rfl, hrow, hb⟩ := hrel
  by_cases h0 : 0 < m
  ·obtain ⟨k, rfl⟩ : ∃ k, m = k + 1 := ⟨m - 1, by omega⟩
   obtain ⟨g, rfl, hg, hcell⟩ := rx (by omega)
   have hc1 : wr.cell? ⟨g, k, none⟩ = some (.int .u32 (D x k : Nat)) := (hb.cell (p := ⟨g, k, none⟩) hg).trans (hcell k (by omega))
   clear hcell rx
   have hd1 := D_lt' x k
   have hr1 : sr x y (k + 1) < y := Nat.mod_lt _ hy
   have hoc := hrow.cell (i := k) (by omega)
   have hof := hrow.frozen k
   have hy1 : ¬ ((y : Int) = 0) := by omega
   obtain ⟨N, hN⟩ : ∃ N, N = sr x y (k + 1) * B32 + D x k := ⟨_, rfl⟩
   have hor : bits .or .u64 ((sr x y (k + 1) : Int) * 4294967296) (D x k : Nat) = (N : Nat) := by rw [or_join (by omega) hd1, hN]; rfl
   have hs1 := sr_step x k hy
   have hs2 := sr_digit x k hy
   rw [← hN] at hs1 hs2
   have hN2 : (N : Int) < 18446744073709551616 := by rw [hN]; show ((sr x y (k + 1) * 4294967296 + D x k : Nat) : Int) < _; omega
   have hq1 : (N : Int) / y < 4294967296 := by have := D_lt' (x / y) k; rw [← hs2] at this; omega
   have hq0 : 0 ≤ (N : Int) / y := by omega
   have Hs1 := Lib.hid hs1
   have Hs2 := Lib.hid hs2
   clear hs1 hs2 hN
   go_wp2
   clear hor
   go_region
   all_goals go_wp2
   go_roundw
   case rel =>
    exact ⟨k, by omega, by go_num, by rw [← Hs1.out]; rfl, (row_down hrow (by rw [← Hs2.out]; rfl)).drew, (hb.setCell (p := ⟨w.heap.size, k, none⟩) (Nat.le_refl _) _).drew⟩
   case measure => simp [intOf] <;> omega
  ·obtain rfl : m = 0 := by omega
   have hz : x / y < B32 ^ nlen x := Nat.lt_of_le_of_lt (Nat.div_le_self _ _) (lt_pow_nlen x)
   have hs0 : sr x y 0 = x % y := by simp [sr]
   have hs1 : sr x y 0 < 4294967296 := by rw [hs0]; have := Nat.mod_lt x hy; omega
   have Hr := Lib.hid (row_all (G := fun _ => 0) (hrow.congr (fun i hi => by unfold u32s; dsimp only; rw [if_pos (by omega), if_pos hi])))
   have Hb := Lib.hid hb
   have Hz := Lib.hid hz
   have Hs0 := Lib.hid hs0
   clear hz hb hrow hs0
   go_wp2_with fail
   refine (trim_row Hr.out Hz.out (by omega)).mono ?_
   rintro e w' ⟨rfl, rfl⟩
   go_wp2
   go_ret2
   exact ⟨_, _, by rw [Hs0.out]; rfl, Nt.of_digits Hr.out Hz.out (by omega), Hb.out⟩
end Go.Proofs.Gv
