/- grooveref07: Digit, Check, Zeros, Next. -/
import Derived.Test.YtjnlfmhckdijlaaLNextP
import Derived.Test.YtjnlfmhckdijlaaLawKit
set_option linter.unusedSimpArgs false
set_option linter.unusedVariables false
namespace Go.Proofs.Gv
open Go Go.RowKit

theorem dg_not {c : UInt8} (h : ∀ j, j < 16 → ltr j ≠ c) : dg c = -1 := by
  have h1 := dg_ge c
  have h2 := dg_lt c
  rcases Int.lt_or_le (dg c) 0 with h3 | h3
  · omega
  · exact absurd (ltr_dg c h3) (h _ (by omega))
theorem letters_atI (k : Nat) (h : k < (⟨#[48, 49, 50, 51, 52, 53, 54, 55, 56, 57, 97, 98, 99, 100, 101, 102]⟩ : ByteArray).size) : (((⟨#[48, 49, 50, 51, 52, 53, 54, 55, 56, 57, 97, 98, 99, 100, 101, 102]⟩ : ByteArray)[k]'h).toNat : Int) = (ltr k).toNat := by rw [letters_at]

set_option maxRecDepth 100000 in
set_option maxHeartbeats 1600000 in
theorem rdigit_any (c : UInt8) (w : World) :
    Calls Try.prog 14 #[.int .u8 c.toNat] w fun e w' => e = .returned (.int .i64 (dg c)) ∧ w = w' := by
  have HD := Lib.hid (fun (h : ∀ j, j < 16 → ltr j ≠ c) => dg_not h)
  go_enter Try.func14, Try.ntmps14
  go_wp2
  go_loop [3] (fun i => ∃ k : Nat, k ≤ 16 ∧ i = .int .i64 k ∧ Hid (∀ j, j < k → ltr j ≠ c)) (fun i => (16 - intOf i).toNat)
  case atStart => exact ⟨0, by omega, rfl, Lib.hid (fun j hj => absurd hj (by omega))⟩
  case round =>
    obtain ⟨k, hk, rfl, HN⟩ := hrel
    by_cases hlt : k < 16
    · have i1 : (k : Int) < 16 := by omega
      have i0 : (0 : Int) ≤ k := by omega
      have hx := letters_atI k hlt
      by_cases he : ltr k = c
      · have HE := Lib.hid (show dg c = k by rw [← he]; exact dg_ltr k hlt)
        have ht : ((((⟨#[48, 49, 50, 51, 52, 53, 54, 55, 56, 57, 97, 98, 99, 100, 101, 102]⟩ : ByteArray)[k]'hlt).toNat : Int) == c.toNat) = true := by rw [hx, he]; exact beq_self_eq_true _
        clear he hx
        go_wp2
        go_ret
        exact ⟨by rw [HE.out]; rfl, rfl⟩
      · have ht : ((((⟨#[48, 49, 50, 51, 52, 53, 54, 55, 56, 57, 97, 98, 99, 100, 101, 102]⟩ : ByteArray)[k]'hlt).toNat : Int) == c.toNat) = false := by
          rw [hx, beq_eq_false_iff_ne]
          intro h
          exact he (UInt8.toNat_inj.mp (by omega))
        have HE := Lib.hid he
        clear he hx
        go_wp2
        go_round
        case rel => exact ⟨k + 1, by omega, by go_num, Lib.hid (fun j hj => by
          rcases Nat.lt_or_ge j k with h | h
          · exact HN.out j h
          · obtain rfl : j = k := by omega
            exact HE.out)⟩
        case measure => simp [intOf]; omega
    · have HE := Lib.hid (HD.out (fun j hj => HN.out j (by omega)))
      have i1 : ¬ (k : Int) < 16 := by omega
      go_wp2
      go_ret
      exact ⟨by rw [HE.out]; rfl, rfl⟩

set_option maxRecDepth 100000 in
set_option maxHeartbeats 1600000 in
theorem rCheckW_any (q : Int) (s : ByteArray) (w : World) (hs : s.size ≤ 9223372036854775807) :
    Calls Try.prog 5 #[.int .i64 q, .string s] w fun e w' => e = .returned (.int .i64 (chk q s)) ∧ w = w' := by
  by_cases hq : 1 ≤ q ∧ q ≤ 16
  · obtain ⟨n, rfl⟩ : ∃ n : Nat, q = n := ⟨q.toNat, by omega⟩
    have q1 : (1 : Int) ≤ n := hq.1
    have q2 : (n : Int) ≤ 16 := hq.2
    have q3 : decide ((n : Int) < 1) = false := decide_eq_false (by omega)
    have HQ := Lib.hid hq
    clear hq
    by_cases hl : 65536 < s.size
    · have HC := Lib.hid (show chk n s = 4 by unfold chk; rw [if_pos HQ.out, if_pos hl])
      go_enter Try.func5, Try.ntmps5
      go_wp2
      go_ret
      exact ⟨by rw [HC.out]; rfl, rfl⟩
    · have HC := Lib.hid (show chk n s = if okW n s then 0 else 13 by unfold chk; rw [if_pos HQ.out, if_neg hl]; simp)
      go_enter Try.func5, Try.ntmps5
      go_wp2
      go_loop [5] (fun i => ∃ k : Nat, k ≤ s.size ∧ i = .int .i64 k ∧ Hid (∀ j, j < k → okL n (at' s j) = true)) (fun i => s.size - (intOf i).toNat)
      case atStart => exact ⟨0, Nat.zero_le _, rfl, Lib.hid (fun j hj => absurd hj (by omega))⟩
      case round =>
        obtain ⟨k, hk, rfl, HO⟩ := hrel
        by_cases hlt : k < s.size
        · have hx : (s[k]'(by omega)) = at' s k := at'_eq (by omega)
          have hi0 : (0 : Int) ≤ k := by omega
          have hi1 : (k : Int) < s.size := by omega
          obtain ⟨d, hd⟩ : ∃ d, dg (at' s k) = d := ⟨_, rfl⟩
          have HG := Lib.hid (fun W => hd ▸ rdigit_any (at' s k) W : ∀ W, Calls Try.prog 14 #[.int .u8 (at' s k).toNat] W fun e w' => e = .returned (.int .i64 d) ∧ W = w')
          by_cases hL : okL n (at' s k) = true
          · have hge : 0 ≤ d ∧ d < n := by unfold okL at hL; simp at hL; rw [hd] at hL; exact hL
            have HL := Lib.hid hL
            have t1 : decide (d < 0) = false := decide_eq_false (by omega)
            have t2 : decide ((n : Int) ≤ d) = false := decide_eq_false (by omega)
            clear hL hd hge
            go_wp2_with (go_at_call 14; refine (HG.out _).mono ?_; rintro e w1 ⟨rfl, rfl⟩)
            go_round
            case rel => exact ⟨k + 1, by omega, by go_num, Lib.hid (fun j hj => by
              rcases Nat.lt_or_ge j k with h | h
              · exact HO.out j h
              · obtain rfl : j = k := by omega
                exact HL.out)⟩
            case measure => simp [intOf]; omega
          · have HR := Lib.hid (show okW n s = false by
              rw [Bool.eq_false_iff]
              intro h
              exact hL (okW_iff.mp h k hlt))
            have hge : d < 0 ∨ (0 ≤ d ∧ (n : Int) ≤ d) := by unfold okL at hL; simp at hL; rw [hd] at hL; omega
            clear hL hd
            rcases hge with h | ⟨h, h'⟩
            · have t1 : decide (d < 0) = true := decide_eq_true h
              go_wp2_with (go_at_call 14; refine (HG.out _).mono ?_; rintro e w1 ⟨rfl, rfl⟩)
              go_ret
              exact ⟨by rw [HC.out, HR.out]; rfl, rfl⟩
            · have t1 : decide (d < 0) = false := decide_eq_false (by omega)
              have t2 : decide ((n : Int) ≤ d) = true := decide_eq_true h'
              go_wp2_with (go_at_call 14; refine (HG.out _).mono ?_; rintro e w1 ⟨rfl, rfl⟩)
              go_ret
              exact ⟨by rw [HC.out, HR.out]; rfl, rfl⟩
        · have HR := Lib.hid (show okW n s = true from okW_iff.mpr fun j hj => HO.out j (by omega))
          obtain rfl : k = s.size := by omega
          go_wp2
          go_ret
          exact ⟨by rw [HC.out, HR.out]; rfl, rfl⟩
  · have HC := Lib.hid (show chk q s = 12 by unfold chk; rw [if_neg hq])
    by_cases q1 : 1 ≤ q
    · have q2 : ¬ q ≤ 16 := fun h => hq ⟨q1, h⟩
      have q3 : decide (q < 1) = false := decide_eq_false (by omega)
      have q4 : decide (16 < q) = true := decide_eq_true (by omega)
      clear hq
      go_enter Try.func5, Try.ntmps5
      go_wp2
      go_ret
      exact ⟨by rw [HC.out]; rfl, rfl⟩
    · have q3 : decide (q < 1) = true := decide_eq_true (by omega)
      clear hq
      go_enter Try.func5, Try.ntmps5
      go_wp2
      go_ret
      exact ⟨by rw [HC.out]; rfl, rfl⟩
end Go.Proofs.Gv
