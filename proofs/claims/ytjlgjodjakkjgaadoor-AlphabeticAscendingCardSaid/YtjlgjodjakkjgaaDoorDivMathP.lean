/- integer.trim: the slice without the zeros at its end. -/
import Derived.Test.YtjlgjodjakkjgaaDoorRows
import Derived.Test.YtjlgjodjakkjgaaDoorKit
import Derived.Test.YtjlgjodjakkjgaaDoorNumP
set_option linter.unusedSimpArgs false
set_option linter.unusedVariables false
namespace Go.Proofs.Gv
open Go Go.RowKit

theorem Tryd.info93z : (Tryd.prog.info? 93).map (fun i => (i.zero, i.size, i.bytes)) = some (some (.int .u32 0), 1, 4) := by kernel_rfl

theorem mk_nat (N : Int) (n : Nat) (e : N = n) (h : n ≤ 1000000000) (w : World) :
    (Instr.makeSlice 87 (.int .i64 N) (.int .i64 N)).run Tryd.prog w = .ok (.slice (some ⟨w.heap.size, 0, none⟩) n n) (w.alloc (.cells (madeCells #[.int .u32 0] n) 93)) := by
  subst e
  exact run_make_row' (P := Tryd.prog) 87 93 (.int .u32 0) 4 Tryd.underlying87 Tryd.info93z rfl .i64 .i64 n (by omega) (by omega) w
/-- What make lays for a natural: zeros. -/
theorem made_row (w : World) (n : Nat) : (w.alloc (.cells (madeCells #[.int .u32 0] n) 93)).rowIs w.heap.size 93 n (u32s fun _ => 0) := World.rowIs_made w _ n _

theorem trim_step {f : Nat → Nat} {m : Nat} (h0 : 0 < m) (h : f (m - 1) = 0) : val f (m - 1) = val f m := by
  obtain ⟨k, rfl⟩ : ∃ k, m = k + 1 := ⟨m - 1, by omega⟩
  rw [Nat.add_sub_cancel] at h ⊢
  rw [val, h]; simp

theorem trim_stop {f : Nat → Nat} {m : Nat} (h0 : 0 < m) (hf : ∀ i, i < m → f i < B32) (h : f (m - 1) ≠ 0) : nlen (val f m) = m := by
  obtain ⟨k, rfl⟩ : ∃ k, m = k + 1 := ⟨m - 1, by omega⟩
  rw [Nat.add_sub_cancel] at h
  have h1 := nlen_le_iff.2 (val_lt hf)
  have h2 : k < nlen (val f (k + 1)) := by
    rw [lt_nlen_iff, val]
    have : 1 * B32 ^ k ≤ f k * B32 ^ k := Nat.mul_le_mul_right _ (by omega)
    omega
  omega

set_option maxHeartbeats 400000 in
theorem trim_any (A : Option Addr) (n c : Nat) (f : Nat → Nat) (w : World) (hr : Rd w w.heap.size A n f) (hf : ∀ i, i < n → f i < B32) (hc : n ≤ c) (hn : c ≤ 1000000000) :
    Calls Tryd.prog 70 #[.slice A n c] w fun e w' => e = .returned (.slice A (nlen (val f n)) c) ∧ w = w' := by
  have Hf := Lib.hid hf
  clear hf
  go_enter Tryd.func70, Tryd.ntmps70
  go_wp2
  go_loop [0] (fun v => ∃ m : Nat, m ≤ n ∧ v = .slice A m c ∧ val f m = val f n) (fun v => slLen v)
  case atStart => exact ⟨n, Nat.le_refl _, rfl, rfl⟩
  case round =>
    obtain ⟨m, hm, rfl, ht⟩ := hrel
    have Ht := Lib.hid ht
    clear ht
    by_cases h0 : 0 < m
    · obtain ⟨g, rfl, hg, hcell⟩ := hr (by omega)
      have hcm := hcell (m - 1) (by omega)
      clear hcell hr
      go_wp2
      · have hz : ((f (m - 1) : Nat) == (0 : Int)) = true := by assumption
        go_round
        case rel => exact ⟨m - 1, by omega, rfl, (trim_step h0 (by simpa using hz)).trans Ht.out⟩
        case measure => simp [slLen]; omega
      · go_ret
        have hz : ((f (m - 1) : Nat) == (0 : Int)) = false := by assumption
        refine ⟨?_, rfl⟩
        rw [← Ht.out, trim_stop h0 (fun i hi => Hf.out i (by omega)) (fun e => by rw [e] at hz; cases hz)]
        rfl
    · have e : m = 0 := by omega
      subst e
      go_wp2
      go_ret
      have h1 : val f n = 0 := Ht.out.symm
      exact ⟨by rw [h1, nlen_zero]; rfl, rfl⟩

/-- At a row of the digits of z. -/
theorem trim_row {w : World} {g t n z : Nat} (h : w.rowIs g t n (u32s (D z))) (hz : z < B32 ^ n) (hn : n ≤ 1000000000) :
    Calls Tryd.prog 70 #[.slice (some ⟨g, 0, none⟩) n n] w fun e w' => e = .returned (.slice (some ⟨g, 0, none⟩) (nlen z) n) ∧ w = w' := by
  have := trim_any (some ⟨g, 0, none⟩) n n (D z) w (Rd.of_row h (Nat.le_refl _)) (fun i _ => D_lt z i) (Nat.le_refl _) hn
  rwa [val_D, Nat.mod_eq_of_lt hz] at this
end Go.Proofs.Gv

namespace Go.Proofs.Gv

/-- Too great a guess. -/
theorem knuth_gt {g Yh Yl P Wh Wl : Nat} (hW : Wl < P) (h : Wh < g * Yh) : Wh * P + Wl < g * (Yh * P + Yl) := by
  have h1 : (Wh + 1) * P ≤ g * Yh * P := Nat.mul_le_mul_right _ h
  rw [Nat.add_mul] at h1
  rw [Nat.mul_add, ← Nat.mul_assoc]
  omega

/-- a with b on top of its first k digits. -/
def join (k a b : Nat) : Nat := a + b * B32 ^ k
theorem join_div {k a b : Nat} (ha : a < B32 ^ k) : join k a b / B32 ^ k = b := by
  unfold join
  rw [Nat.add_mul_div_right _ _ (pow_pos k), Nat.div_eq_of_lt ha, Nat.zero_add]
theorem D_div (x i k : Nat) : D (x / B32 ^ k) i = D x (k + i) := by
  unfold D
  rw [Nat.div_div_eq_div_mul, ← Nat.pow_add]
theorem D_join_high {k a b : Nat} (ha : a < B32 ^ k) (i : Nat) : D (join k a b) (k + i) = D b i := by
  rw [← D_div, join_div ha]
theorem D_mod {x i k : Nat} (h : i < k) : D (x % B32 ^ k) i = D x i := by
  obtain ⟨m, rfl⟩ : ∃ m, k = i + (m + 1) := ⟨k - i - 1, by omega⟩
  unfold D
  rw [Nat.pow_add, Nat.mod_mul_right_div_self, Nat.pow_succ, Nat.mod_mul_left_mod]
theorem D_join_low {k a b i : Nat} (h : i < k) : D (join k a b) i = D a i := by
  rw [← D_mod (x := join k a b) h, ← D_mod (x := a) h]
  congr 1
  unfold join
  rw [Nat.add_mul_mod_self_right]
/-- The head of a number with m + 2 digits. -/
theorem head2 {z m : Nat} (hz : z < B32 ^ (m + 2)) : z / B32 ^ m = D z (m + 1) * B32 + D z m := by
  rw [div_step z m, div_step z (m + 1), Nat.div_eq_of_lt hz, Nat.zero_mul, Nat.zero_add]
theorem head3 {z m : Nat} (hz : z < B32 ^ (m + 3)) : z / B32 ^ m = (D z (m + 2) * B32 + D z (m + 1)) * B32 + D z m := by
  rw [div_step z m, head2 (m := m + 1) hz]

/-- What the guesses of the long division keep: top = g * vt + r; the quotient is not greater. -/
structure Guess (Y W m top g r : Nat) : Prop where
  top : top = g * D Y (m + 1) + r
  ge : W / Y ≤ g
  le : g ≤ B32 + 1
  lt : r < B32

section
variable {Y W m g r : Nat}
/-- Y has m + 2 digits, the first one great; W is less than Y * B32. -/
structure Pair (Y W m : Nat) : Prop where
  hY : Y < B32 ^ (m + 2)
  vt : 2147483648 ≤ D Y (m + 1)
  hW : W < Y * B32

theorem Pair.pos (h : Pair Y W m) : 0 < Y := by
  have := h.hW
  rcases Nat.eq_zero_or_pos Y with e | e
  · subst e; omega
  · exact e
theorem Pair.quo (h : Pair Y W m) : W / Y < B32 := by
  rw [Nat.div_lt_iff_lt_mul h.pos, Nat.mul_comm]; exact h.hW
theorem Pair.W_lt (h : Pair Y W m) : W < B32 ^ (m + 3) := by
  have h1 : Y * B32 < B32 ^ (m + 2) * B32 := Nat.mul_lt_mul_of_pos_right h.hY B32_pos
  rw [← Nat.pow_succ] at h1
  exact Nat.lt_trans h.hW h1
/-- The first two digits of the window. -/
def wtop (W m : Nat) : Nat := D W (m + 2) * B32 + D W (m + 1)
theorem Pair.split (h : Pair Y W m) : Y = (D Y (m + 1) * B32 + D Y m) * B32 ^ m + Y % B32 ^ m ∧ W = (wtop W m * B32 + D W m) * B32 ^ m + W % B32 ^ m := by
  have e1 := Nat.div_add_mod Y (B32 ^ m)
  have e2 := Nat.div_add_mod W (B32 ^ m)
  rw [head2 h.hY, Nat.mul_comm] at e1
  rw [head3 h.W_lt, Nat.mul_comm] at e2
  exact ⟨e1.symm, e2.symm⟩
/-- The test says: too great. -/
theorem Guess.tooBig (h : Pair Y W m) (k : Guess Y W m (wtop W m) g r) (ht : B32 ≤ g ∨ r * B32 + D W m < g * D Y m) : W / Y < g := by
  rcases ht with ht | ht
  · exact Nat.lt_of_lt_of_le h.quo ht
  · obtain ⟨e1, e2⟩ := h.split
    rw [Nat.div_lt_iff_lt_mul h.pos]
    have h1 : wtop W m * B32 + D W m < g * (D Y (m + 1) * B32 + D Y m) := by
      rw [k.top, Nat.mul_add, Nat.add_mul, Nat.mul_assoc]; omega
    have := knuth_gt (Wl := W % B32 ^ m) (Yl := Y % B32 ^ m) (Nat.mod_lt _ (pow_pos m)) h1
    rwa [← e1, ← e2] at this
theorem Guess.next (h : Pair Y W m) (k : Guess Y W m (wtop W m) g r) (ht : B32 ≤ g ∨ r * B32 + D W m < g * D Y m) :
    1 ≤ g ∧ wtop W m = (g - 1) * D Y (m + 1) + (r + D Y (m + 1)) ∧ W / Y ≤ g - 1 ∧ g - 1 ≤ B32 := by
  have h1 := k.tooBig h ht
  have h2 := k.le
  obtain ⟨g', rfl⟩ : ∃ g', g = g' + 1 := ⟨g - 1, by have := Nat.zero_lt_of_lt h1; omega⟩
  have h3 := k.top
  rw [Nat.add_mul] at h3
  rw [Nat.add_sub_cancel]
  generalize W / Y = q at *
  omega
end
end Go.Proofs.Gv
