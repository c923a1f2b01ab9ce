/- integer.subtract: the difference of two naturals. -/
import Derived.Test.YtglgiofjgfbfgaaAddP
set_option linter.unusedSimpArgs false
set_option linter.unusedVariables false
namespace Go.Proofs.Gv
open Go Go.RowKit

/-- The borrow out of digit k of x - y. -/
def bw (x y k : Nat) : Nat := if x % B32 ^ k < y % B32 ^ k then 1 else 0
theorem bw_zero (x y : Nat) : bw x y 0 = 0 := by simp [bw, Nat.mod_one]
theorem bw_le (x y k : Nat) : bw x y k ≤ 1 := by unfold bw; split <;> omega
theorem bw_iff (x y k : Nat) : x % B32 ^ (k + 1) < y % B32 ^ (k + 1) ↔ D x k < bw x y k + D y k := by
  have h1 := Nat.mod_lt x (pow_pos k)
  have h2 := Nat.mod_lt y (pow_pos k)
  rw [mod_succ, mod_succ]
  unfold bw
  generalize x % B32 ^ k = a at *
  generalize y % B32 ^ k = b at *
  generalize D x k = dx
  generalize D y k = dy
  generalize B32 ^ k = P at *
  constructor
  · intro h
    by_cases hab : a < b
    · rw [if_pos hab]
      apply Classical.byContradiction
      intro hn
      have : P * (dy + 1) ≤ P * dx := Nat.mul_le_mul_left _ (by omega)
      rw [Nat.mul_add] at this
      omega
    · rw [if_neg hab]
      apply Classical.byContradiction
      intro hn
      have : P * dy ≤ P * dx := Nat.mul_le_mul_left _ (by omega)
      omega
  · intro h
    by_cases hab : a < b
    · rw [if_pos hab] at h
      have : P * dx ≤ P * dy := Nat.mul_le_mul_left _ (by omega)
      omega
    · rw [if_neg hab] at h
      have : P * (dx + 1) ≤ P * dy := Nat.mul_le_mul_left _ (by omega)
      rw [Nat.mul_add] at this
      omega

theorem bw_div {x y : Nat} (h : y ≤ x) (k : Nat) : (((x - y) / B32 ^ k : Nat) : Int) = ((x / B32 ^ k : Nat) : Int) - (y / B32 ^ k : Nat) - bw x y k := by
  have h1 := Nat.mod_lt x (pow_pos k)
  have h2 := Nat.mod_lt y (pow_pos k)
  have e1 := Nat.div_add_mod x (B32 ^ k)
  have e2 := Nat.div_add_mod y (B32 ^ k)
  have hd : y / B32 ^ k ≤ x / B32 ^ k := Nat.div_le_div_right h
  unfold bw
  generalize x % B32 ^ k = a at *
  generalize y % B32 ^ k = b at *
  have hp := pow_pos k
  generalize x / B32 ^ k = qx at *
  generalize y / B32 ^ k = qy at *
  generalize B32 ^ k = P at *
  obtain ⟨u, rfl⟩ : ∃ u, qx = qy + u := ⟨qx - qy, by omega⟩
  rw [Nat.mul_add] at e1
  by_cases hab : a < b
  · have hu : u ≠ 0 := by rintro rfl; omega
    obtain ⟨v, rfl⟩ : ∃ v, u = v + 1 := ⟨u - 1, by omega⟩
    have : (x - y) / P = v := by
      apply Nat.div_eq_of_lt_le
      · rw [Nat.mul_comm]; rw [Nat.mul_add] at e1; omega
      · rw [Nat.mul_comm, Nat.mul_add]; rw [Nat.mul_add] at e1; omega
    rw [this, if_pos hab]; omega
  · have : (x - y) / P = u := by
      apply Nat.div_eq_of_lt_le
      · rw [Nat.mul_comm]; omega
      · rw [Nat.mul_comm, Nat.mul_add]; omega
    rw [this, if_neg hab]; omega

theorem bw_digit {x y : Nat} (h : y ≤ x) (k : Nat) : ((D (x - y) k : Nat) : Int) = ((D x k : Int) - bw x y k - D y k) % 4294967296 := by
  have e := bw_div h k
  unfold D
  show (((x - y) / B32 ^ k % 4294967296 : Nat) : Int) = (((x / B32 ^ k % 4294967296 : Nat) : Int) - bw x y k - ((y / B32 ^ k % 4294967296 : Nat) : Int)) % 4294967296
  omega

theorem bw_neg {x y k : Nat} {e : Int} (h : y ≤ x) (he : e = (D y k : Nat)) (hneg : (D x k : Int) - bw x y k - e < 0) :
    bw x y (k + 1) = 1 ∧ (D x k : Int) - bw x y k - e + 4294967296 = (D (x - y) k : Nat) := by
  subst he
  have h1 := D_lt' x k
  have h2 := D_lt' y k
  have h3 := bw_le x y k
  refine ⟨?_, by rw [bw_digit h]; omega⟩
  have := (bw_iff x y k).2 (by omega)
  unfold bw; rw [if_pos this]
theorem bw_nn {x y k : Nat} {e : Int} (h : y ≤ x) (he : e = (D y k : Nat)) (hneg : ¬ (D x k : Int) - bw x y k - e < 0) :
    bw x y (k + 1) = 0 ∧ (D x k : Int) - bw x y k - e = (D (x - y) k : Nat) := by
  subst he
  have h1 := D_lt' x k
  have h2 := D_lt' y k
  have h3 := bw_le x y k
  refine ⟨?_, by rw [bw_digit h]; omega⟩
  have := mt (bw_iff x y k).1 (by omega)
  unfold bw; rw [if_neg this]

set_option maxHeartbeats 400000 in
theorem subtract_any (A A' : Option Addr) (c c' x y : Nat) (w : World) (hx : Nt w w.heap.size A c x) (hy : Nt w w.heap.size A' c' y) (hn : nlen x ≤ 10000000) (hyx : y ≤ x) :
    Calls Try.prog 87 #[.slice A (nlen x) c, .slice A' (nlen y) c'] w (RetNat w (x - y)) := by
  have hge := nlen_mono hyx
  obtain ⟨lx, bx, rx⟩ := hx
  obtain ⟨ly, by', ry⟩ := hy
  have hmk := mk_nat (nlen x) (nlen x) rfl (by omega)
  go_enter Try.func87, Try.ntmps87
  go_wp2
  clear hmk
  obtain ⟨W0, hW0⟩ : ∃ W0, w.alloc (.cells (madeCells #[.int .u32 0] (nlen x)) 68) = W0 := ⟨_, rfl⟩
  have hrow0 : W0.rowIs w.heap.size 68 (nlen x) (u32s fun _ => 0) := by rw [← hW0]; exact made_row w _
  have hb0 : Below w.heap.size w W0 := by rw [← hW0]; exact (Below.refl _ _).alloc (Nat.le_refl _) _
  rw [hW0]
  clear hW0
  go_loopw [6, 14] (fun cr i wr => ∃ k : Nat, k ≤ nlen x ∧ i = .int .i64 k ∧ cr = .int .i64 (bw x y k : Nat) ∧ wr.rowIs w.heap.size 68 (nlen x) (u32s fun j => if j < k then D (x - y) j else 0) ∧ Below w.heap.size w wr)
    (fun _ i _ => nlen x - (intOf i).toNat)
  case atStart => exact ⟨0, Nat.zero_le _, rfl, by rw [bw_zero]; rfl, hrow0, hb0⟩
  case round =>
    obtain ⟨k, hk, rfl, rfl, hrow, hb⟩ := hrel
    by_cases hlt : k < nlen x
    · obtain ⟨g, rfl, hg, hcell⟩ := rx (by omega)
      have h1 := hcell k hlt
      have hc1 : wr.cell? ⟨g, k, none⟩ = some (.int .u32 (D x k : Nat)) := (hb.cell (p := ⟨g, k, none⟩) hg).trans h1
      have hd1 := D_lt' x k
      have hd2 := D_lt' y k
      have hcr := bw_le x y k
      have hoc := hrow.cell (i := k) (by omega)
      have hof := hrow.frozen k
      clear hcell rx h1
      by_cases hy' : k < nlen y
      · obtain ⟨g', rfl, hg', hcell'⟩ := ry (by omega)
        have hc2 : wr.cell? ⟨g', k, none⟩ = some (.int .u32 (D y k : Nat)) := (hb.cell (p := ⟨g', k, none⟩) hg').trans (hcell' k hy')
        clear hcell' ry
        by_cases hneg : (D x k : Int) - bw x y k - D y k < 0
        · have Hs := Lib.hid (bw_neg hyx rfl hneg)
          go_wp2
          go_roundw
          case rel => exact ⟨k + 1, by omega, by go_num, by rw [Hs.out.1]; rfl, row_step hrow Hs.out.2, hb.setCell (p := ⟨w.heap.size, k, none⟩) (Nat.le_refl _) _⟩
          case measure => simp [intOf] <;> omega
        · have Hs := Lib.hid (bw_nn hyx rfl hneg)
          go_wp2
          go_roundw
          case rel => exact ⟨k + 1, by omega, by go_num, by rw [Hs.out.1]; rfl, row_step hrow Hs.out.2, hb.setCell (p := ⟨w.heap.size, k, none⟩) (Nat.le_refl _) _⟩
          case measure => simp [intOf] <;> omega
      · have hy2 : ¬ (k : Int) < (nlen y : Int) := by omega
        have hD0 : D y k = 0 := D_high (by omega)
        by_cases hneg : (D x k : Int) - bw x y k < 0
        · have Hs := Lib.hid (bw_neg (e := 0) hyx (by rw [hD0]; rfl) (by omega))
          clear hD0
          go_wp2
          go_roundw
          case rel => exact ⟨k + 1, by omega, by go_num, by rw [Hs.out.1]; rfl, row_step hrow (by rw [← Hs.out.2]; omega), hb.setCell (p := ⟨w.heap.size, k, none⟩) (Nat.le_refl _) _⟩
          case measure => simp [intOf] <;> omega
        · have Hs := Lib.hid (bw_nn (e := 0) hyx (by rw [hD0]; rfl) (by omega))
          clear hD0
          go_wp2
          go_roundw
          case rel => exact ⟨k + 1, by omega, by go_num, by rw [Hs.out.1]; rfl, row_step hrow (by rw [← Hs.out.2]; omega), hb.setCell (p := ⟨w.heap.size, k, none⟩) (Nat.le_refl _) _⟩
          case measure => simp [intOf] <;> omega
    · obtain rfl : k = nlen x := by omega
      have hz : x - y < B32 ^ nlen x := by have := lt_pow_nlen x; omega
      have Hr := Lib.hid (row_all hrow)
      have Hb := Lib.hid hb
      have Hz := Lib.hid hz
      clear hz hb hrow
      go_wp2_with fail
      refine (trim_row Hr.out Hz.out (by omega)).mono ?_
      rintro e w' ⟨rfl, rfl⟩
      go_wp2
      go_ret
      exact RetNat.of_row Hr.out Hz.out (by omega) Hb.out

end Go.Proofs.Gv
