/- integer.digits: the absolute value of an integer. -/
import Derived.Test.YtglgiofjgfbfgaaTrimP
import Derived.Test.YtglgiofjgfbfgaaBytesP
import Derived.Test.YtglgiofjgfbfgaaRows
set_option linter.unusedSimpArgs false
set_option linter.unusedVariables false
namespace Go.Proofs.Gv
open Go Go.RowKit

/-- Byte i from the end. -/
def rb (s : ByteArray) (i : Nat) : Nat := if i < s.data.toList.length then (s.data.toList.getD (s.data.toList.length - 1 - i) 0).toNat else 0
theorem rb_lt (s : ByteArray) (i : Nat) : rb s i < 256 := by
  unfold rb
  split
  · exact UInt8.toNat_lt _
  · omega
theorem rb_at {s : ByteArray} {k : Nat} (h : k < s.size) : rb s k = (s[s.size - 1 - k]'(by omega)).toNat := by
  unfold rb
  have hl : s.data.toList.length = s.size := by simp
  rw [if_pos (by omega), List.getD_eq_getElem?_getD, List.getElem?_eq_getElem (by omega), Option.getD_some]
  simp only [hl]
  rfl
theorem lv_rb (s : ByteArray) : lv (rb s) s.size = bv s.data.toList := by
  have hl : s.data.toList.length = s.size := by simp
  rw [← lv_bv, hl]
  rfl

theorem or_byte {d c m : Nat} (hc : c < 256) (hm : m < 4) (hd : d < 256 ^ m) : bits .or .u32 (d : Int) ((c : Int) * 2 ^ (8 * m) % 4294967296) = ((d + c * 256 ^ m : Nat) : Int) := by
  have h4 : 256 ^ m * 256 ≤ 4294967296 := by
    have : 256 ^ m ≤ 256 ^ 3 := Nat.pow_le_pow_right (by decide) (by omega)
    omega
  have h5 : c * 256 ^ m ≤ 255 * 256 ^ m := Nat.mul_le_mul_right _ (by omega)
  have e : (c : Int) * 2 ^ (8 * m) % 4294967296 = ((c * 256 ^ m : Nat) : Int) := by
    have : (c : Int) * 2 ^ (8 * m) = ((c * 256 ^ m : Nat) : Int) := by rw [Int.pow_mul]; simp
    rw [this]
    generalize c * 256 ^ m = q at *
    omega
  have e8 : 256 ^ m = 2 ^ (8 * m) := by rw [Nat.pow_mul]
  rw [e, u32_or_nat _ _ (by omega) (by omega), Nat.or_comm, nat_join (8 * m) _ _ (by rw [← e8, Nat.mul_mod_left]) (by rw [← e8]; exact hd), Nat.add_comm]

theorem pow256_le (n : Nat) : 256 ^ n ≤ B32 ^ ((n + 3) / 4) := by
  rw [show B32 = 256 ^ 4 from rfl, ← Nat.pow_mul]
  exact Nat.pow_le_pow_right (by decide) (by omega)

set_option maxHeartbeats 800000 in
theorem digits_any (ng : Bool) (s : ByteArray) (w : World) (hs : s.size ≤ 40000000) :
    Calls Try.prog 46 #[.agg #[.bool ng, .string s]] w (RetNat w (bv s.data.toList)) := by
  have hmk := mk_nat (((s.size : Int) + 3) / 4) ((s.size + 3) / 4) (by omega) (by omega)
  go_enter Try.func46, Try.ntmps46
  go_wp2
  clear hmk
  obtain ⟨W0, hW0⟩ : ∃ W0, (w.alloc (.cells #[.bool ng, .string s] 29)).alloc (.cells (madeCells #[.int .u32 0] ((s.size + 3) / 4)) 68) = W0 := ⟨_, rfl⟩
  have hrow0 : W0.rowIs (w.heap.size + 1) 68 ((s.size + 3) / 4) (u32s fun _ => 0) := by rw [← hW0]; simpa using made_row (w.alloc (.cells #[.bool ng, .string s] 29)) ((s.size + 3) / 4)
  have hs0 : W0.cell? ⟨w.heap.size, 1, none⟩ = some (.string s) := by rw [← hW0]; simp [go_sem]
  have hb0 : Below w.heap.size w W0 := by rw [← hW0]; exact ((Below.refl _ _).alloc (Nat.le_refl _) _).alloc (by simp) _
  rw [hW0]
  clear hW0
  go_loopw [15] (fun i wr => ∃ k : Nat, k ≤ s.size ∧ i = .int .i64 k ∧ wr.rowIs (w.heap.size + 1) 68 ((s.size + 3) / 4) (u32s (D (lv (rb s) k))) ∧ wr.cell? ⟨w.heap.size, 1, none⟩ = some (.string s) ∧ Below w.heap.size w wr)
    (fun i _ => s.size - (intOf i).toNat)
  case atStart => exact ⟨0, Nat.zero_le _, rfl, hrow0.congr (fun i _ => by unfold u32s; rw [show lv (rb s) 0 = 0 from rfl, D_zero]), hs0, hb0⟩
  case round =>
    obtain ⟨k, hk, rfl, hrow, hsc, hb⟩ := hrel
    by_cases hlt : k < s.size
    · have hoc : wr.cell? ⟨w.heap.size + 1, k / 4, none⟩ = some (.int .u32 (D (lv (rb s) k) (k / 4) : Nat)) := hrow.cell (i := k / 4) (by omega)
      have hof := hrow.frozen (k / 4)
      obtain ⟨c, hc⟩ : ∃ c, s[s.size - 1 - k]'(by omega) = c := ⟨_, rfl⟩
      have hcl : c.toNat < 256 := c.toNat_lt
      have hrk : rb s k = c.toNat := by rw [rb_at hlt, hc]
      obtain ⟨hl1, hl2, hl3⟩ := lv_digit (rb_lt s) k
      have hl4 := D_lt' (lv (rb s) k) (k / 4)
      have Hl1 := Lib.hid hl1
      have Hl2 := Lib.hid hl2
      have Hl3 := Lib.hid hl3
      have Hrk := Lib.hid hrk
      have hi1 : (k : Int) / 4 < ((s.size : Int) + 3) / 4 := by omega
      clear hl1 hl2 hl3 hrk
      go_wp2
      go_region
      all_goals go_wp2
      go_roundw
      case rel =>
        refine ⟨k + 1, by omega, by go_num, ((hrow.set (k / 4) _).congr (fun j _ => ?_)).drew, (World.cell?_setCell_other wr _ _ _ (fun e => by have h := congrArg Addr.block e; simp at h)).trans hsc, (hb.setCell (p := ⟨w.heap.size + 1, k / 4, none⟩) (by show w.heap.size ≤ w.heap.size + 1; omega) _).drew⟩
        rw [or_byte hcl (Nat.mod_lt _ (by omega)) Hl2.out, ← Hrk.out, ← Hl1.out]
        unfold u32s
        by_cases e : j = k / 4
        · rw [if_pos e, e]
        · rw [if_neg e, Hl3.out j e]
      case measure => simp [intOf] <;> omega
    · obtain rfl : k = s.size := by omega
      have Hr := Lib.hid hrow
      have Hz : Hid (lv (rb s) s.size < B32 ^ ((s.size + 3) / 4)) := Nat.lt_of_lt_of_le (lv_lt (rb_lt s) _) (pow256_le _)
      have Hb := Lib.hid hb
      clear hrow hb
      go_wp2_with fail
      refine (trim_row Hr.out Hz.out (by omega)).mono ?_
      rintro e w' ⟨rfl, rfl⟩
      go_wp2
      go_ret
      rw [← lv_rb]
      exact RetNat.of_row Hr.out Hz.out (by omega) Hb.out
end Go.Proofs.Gv

namespace Go.Proofs.Gv
open Go Go.RowKit

/-- -1, 0 or 1. -/
def cmpN (x y : Nat) : Int := if x < y then -1 else if y < x then 1 else 0
theorem cmpN_lt {x y : Nat} (h : x < y) : cmpN x y = -1 := by simp [cmpN, h]
theorem cmpN_gt {x y : Nat} (h : y < x) : cmpN x y = 1 := by unfold cmpN; rw [if_neg (by omega), if_pos h]
theorem cmpN_eq (x : Nat) : cmpN x x = 0 := by simp [cmpN]

theorem lt_of_nlen {x y : Nat} (h : nlen x < nlen y) : x < y :=
  Nat.lt_of_lt_of_le (lt_pow_nlen x) (lt_nlen_iff.1 h)

/-- The digits from m on agree. -/
def Agree (x y m : Nat) : Prop := x / B32 ^ m = y / B32 ^ m
theorem Agree.top {x y : Nat} (h : nlen x = nlen y) : Agree x y (nlen x) := by
  unfold Agree
  rw [Nat.div_eq_of_lt (lt_pow_nlen x), h, Nat.div_eq_of_lt (lt_pow_nlen y)]
theorem Agree.step {x y m : Nat} (h : Agree x y (m + 1)) (e : D x m = D y m) : Agree x y m := by
  unfold Agree at h ⊢
  rw [div_step x m, div_step y m, h, e]
theorem Agree.lt {x y m : Nat} (h : Agree x y (m + 1)) (e : D x m < D y m) : x < y := by
  unfold Agree at h
  have h1 : x / B32 ^ m < y / B32 ^ m := by rw [div_step x m, div_step y m, h]; omega
  exact Nat.lt_of_div_lt_div h1
theorem Agree.all {x y : Nat} (h : Agree x y 0) : x = y := by simpa [Agree] using h

set_option maxHeartbeats 400000 in
theorem compare_any (A A' : Option Addr) (c c' x y : Nat) (w : World) (hx : Nt w w.heap.size A c x) (hy : Nt w w.heap.size A' c' y) :
    Calls Try.prog 86 #[.slice A (nlen x) c, .slice A' (nlen y) c'] w fun e w' => e = .returned (.int .i64 (cmpN x y)) ∧ Dr w w' := by
  obtain ⟨lx, bx, rx⟩ := hx
  obtain ⟨ly, by', ry⟩ := hy
  by_cases hne : nlen x = nlen y
  · rw [← hne] at ry ly ⊢
    have Hne := Lib.hid hne
    clear hne
    go_enter Try.func86, Try.ntmps86
    go_wp2
    go_loopw [5] (fun i wr => ∃ m : Nat, m ≤ nlen x ∧ i = .int .i64 ((m : Int) - 1) ∧ Agree x y m ∧ Dr w wr) (fun i _ => (intOf i + 1).toNat)
    case atStart => exact ⟨nlen x, Nat.le_refl _, rfl, Agree.top Hne.out, Dr.refl _⟩
    case round =>
      obtain ⟨m, hm, rfl, ha, n, rfl⟩ := hrel
      have hd0 : Dr w (w.drewN n) := ⟨n, rfl⟩
      have Ha := Lib.hid ha
      clear ha
      by_cases h0 : 0 < m
      · obtain ⟨k, rfl⟩ : ∃ k, m = k + 1 := ⟨m - 1, by omega⟩
        obtain ⟨g, rfl, hg, hcell⟩ := rx (by omega)
        obtain ⟨g', rfl, hg', hcell'⟩ := ry (by omega)
        have h1 := hcell k (by omega)
        have h2 := hcell' k (by omega)
        clear hcell hcell' rx ry
        go_wp2
        go_quiet (fail)
        go_wp2
        · go_quiet (fail)
          go_wp2
          · go_ret
            have hlt : D x k < D y k := by assumption
            exact ⟨by rw [cmpN_lt (Ha.out.lt (by omega))]; rfl, (hd0.more _).more _⟩
          · go_ret
            have hle : ¬ D x k < D y k := by assumption
            have hn : ((D x k : Int) != (D y k : Int)) = true := by assumption
            rw [bne_iff_ne] at hn
            exact ⟨by rw [cmpN_gt (Agree.lt (show Agree y x (k + 1) from Ha.out.symm) (by omega))]; rfl, (hd0.more _).more _⟩
        · have hn : ((D x k : Int) != (D y k : Int)) = false := by assumption
          have hd : D x k = D y k := by have := bne_eq_false_iff_eq.1 hn; omega
          go_roundw
          case rel => exact ⟨k, by omega, by go_num, Ha.out.step hd, Dr.of _ _⟩
          case measure => simp [intOf] <;> omega
      · obtain rfl : m = 0 := by omega
        go_wp2
        go_ret
        exact ⟨by rw [Ha.out.all, cmpN_eq]; rfl, hd0⟩
  · have h1 : ((nlen x : Int) != (nlen y : Int)) = true := by rw [bne_iff_ne]; omega
    by_cases hlt : nlen x < nlen y
    · go_enter Try.func86, Try.ntmps86
      go_wp2
      go_ret
      exact ⟨by rw [cmpN_lt (lt_of_nlen hlt)]; rfl, Dr.refl _⟩
    · go_enter Try.func86, Try.ntmps86
      go_wp2
      go_ret
      exact ⟨by rw [cmpN_gt (lt_of_nlen (by omega))]; rfl, Dr.refl _⟩
end Go.Proofs.Gv
