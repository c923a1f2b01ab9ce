/- integer.compare: the order of two naturals. -/
import Derived.Test.YtpdanbnfommbhaaRows
import Derived.Test.YtpdanbnfommbhaaKit
set_option linter.unusedSimpArgs false
set_option linter.unusedVariables false
namespace Go.Proofs.Gv
open Go Go.RowKit

/-- -1, 0 or 1. -/
def cmpN (x y : Nat) : Int := if x < y then -1 else if y < x then 1 else 0
theorem cmpN_lt {x y : Nat} (h : x < y) : cmpN x y = -1 := by simp [cmpN, h]
theorem cmpN_gt {x y : Nat} (h : y < x) : cmpN x y = 1 := by unfold cmpN; rw [if_neg (by omega), if_pos h]
theorem cmpN_eq (x : Nat) : cmpN x x = 0 := by simp [cmpN]

theorem lt_of_nlen {x y : Nat} (h : nlen x < nlen y) : x < y :=
  Nat.lt_of_lt_of_le (lt_pow_nlen x) (lt_nlen_iff.1 h)

/-- The digits from m on agree. -/
def Agree (x y m : Nat) : Prop := x / B32 ^ m = y / B32 ^ m
theorem Agree.top {x y : Nat} (h : nlen x = nlen y) : Agree x y (nlen x) := by
  unfold Agree
  rw [Nat.div_eq_of_lt (lt_pow_nlen x), h, Nat.div_eq_of_lt (lt_pow_nlen y)]
theorem Agree.step {x y m : Nat} (h : Agree x y (m + 1)) (e : D x m = D y m) : Agree x y m := by
  unfold Agree at h ⊢
  rw [div_step x m, div_step y m, h, e]
theorem Agree.lt {x y m : Nat} (h : Agree x y (m + 1)) (e : D x m < D y m) : x < y := by
  unfold Agree at h
  have h1 : x / B32 ^ m < y / B32 ^ m := by rw [div_step x m, div_step y m, h]; omega
  exact Nat.lt_of_div_lt_div h1
theorem Agree.all {x y : Nat} (h : Agree x y 0) : x = y := by simpa [Agree] using h

set_option maxHeartbeats 400000 in
theorem compare_any (A A' : Option Addr) (c c' x y : Nat) (w : World) (hx : Nt w w.heap.size A c x) (hy : Nt w w.heap.size A' c' y) :
    Calls Try.prog 39 #[.slice A (nlen x) c, .slice A' (nlen y) c'] w fun e w' => e = .returned (.int .i64 (cmpN x y)) ∧ Dr w w' := by
  obtain ⟨lx, bx, rx⟩ := hx
  obtain ⟨ly, by', ry⟩ := hy
  by_cases hne : nlen x = nlen y
  · rw [← hne] at ry ly ⊢
    have Hne := Lib.hid hne
    clear hne
    go_enter Try.func39, Try.ntmps39
    go_wp2
    go_loopw [5] (fun i wr => ∃ m : Nat, m ≤ nlen x ∧ i = .int .i64 ((m : Int) - 1) ∧ Agree x y m ∧ Dr w wr) (fun i _ => (intOf i + 1).toNat)
    case atStart => exact ⟨nlen x, Nat.le_refl _, rfl, Agree.top Hne.out, Dr.refl _⟩
    case round =>
      obtain ⟨m, hm, rfl, ha, n, rfl⟩ := hrel
      have hd0 : Dr w (w.drewN n) := ⟨n, rfl⟩
      have Ha := Lib.hid ha
      clear ha
      by_cases h0 : 0 < m
      · obtain ⟨k, rfl⟩ : ∃ k, m = k + 1 := ⟨m - 1, by omega⟩
        obtain ⟨g, rfl, hg, hcell⟩ := rx (by omega)
        obtain ⟨g', rfl, hg', hcell'⟩ := ry (by omega)
        have h1 := hcell k (by omega)
        have h2 := hcell' k (by omega)
        clear hcell hcell' rx ry
        go_wp2
        go_quiet (fail)
        go_wp2
        · go_quiet (fail)
          go_wp2
          · go_ret
            have hlt : D x k < D y k := by assumption
            exact ⟨by rw [cmpN_lt (Ha.out.lt (by omega))]; rfl, (hd0.more _).more _⟩
          · go_ret
            have hle : ¬ D x k < D y k := by assumption
            have hn : ((D x k : Int) != (D y k : Int)) = true := by assumption
            rw [bne_iff_ne] at hn
            exact ⟨by rw [cmpN_gt (Agree.lt (show Agree y x (k + 1) from Ha.out.symm) (by omega))]; rfl, (hd0.more _).more _⟩
        · have hn : ((D x k : Int) != (D y k : Int)) = false := by assumption
          have hd : D x k = D y k := by have := bne_eq_false_iff_eq.1 hn; omega
          go_roundw
          case rel => exact ⟨k, by omega, by go_num, Ha.out.step hd, Dr.of _ _⟩
          case measure => simp [intOf] <;> omega
      · obtain rfl : m = 0 := by omega
        go_wp2
        go_ret
        exact ⟨by rw [Ha.out.all, cmpN_eq]; rfl, hd0⟩
  · have h1 : ((nlen x : Int) != (nlen y : Int)) = true := by rw [bne_iff_ne]; omega
    by_cases hlt : nlen x < nlen y
    · go_enter Try.func39, Try.ntmps39
      go_wp2
      go_ret
      exact ⟨by rw [cmpN_lt (lt_of_nlen hlt)]; rfl, Dr.refl _⟩
    · go_enter Try.func39, Try.ntmps39
      go_wp2
      go_ret
      exact ⟨by rw [cmpN_gt (lt_of_nlen (by omega))]; rfl, Dr.refl _⟩
end Go.Proofs.Gv
