/- tenengolts: Data, Encode. -/
import Derived.Test.YtjnlfmhckdijlaaTaw
set_option linter.unusedSimpArgs false
set_option linter.unusedVariables false
namespace Go.Proofs.Gv
open Go Go.RowKit

theorem and_nat (a b : Nat) (ha : a < 2 ^ 63) (hb : b < 2 ^ 63) : bits .and .i64 (a : Int) (b : Int) = ((a &&& b : Nat) : Int) := by
  have e : ∀ x : Nat, x < 2 ^ 63 → (BitVec.ofInt 64 (x : Int)).toNat = x := fun x hx => by
    rw [BitVec.toNat_ofInt]; omega
  have key : (BitVec.ofInt 64 (a : Int) &&& BitVec.ofInt 64 (b : Int)).toNat = a &&& b := by
    rw [BitVec.toNat_and, e a ha, e b hb]
  have h2 : a &&& b ≤ a := Nat.and_le_left
  show IntKind.i64.wrap ((BitVec.ofInt 64 (a : Int) &&& BitVec.ofInt 64 (b : Int)).toNat : Nat) = _
  rw [key, IntKind.wrap_i64]
  omega
set_option maxRecDepth 100000 in
set_option maxHeartbeats 1600000 in
theorem free_any (p : Nat) (hp : p ≤ 1000) (w : World) : Calls Try.prog 24 #[.int .i64 ((p : Int) + 1)] w fun e w' => e = .returned (.bool (fr2 (p + 1))) ∧ w' = w := by
  have hb : bits .and .i64 ((p : Int) + 1) (p : Int) = (((p + 1) &&& p : Nat) : Int) := and_nat (p + 1) p (by omega) (by omega)
  have hq : ((p : Int) + 1 - 1) = (p : Int) := by omega
  have HR := Lib.hid (show ((((p + 1) &&& p : Nat) : Int) != 0) = fr2 (p + 1) from by
    unfold fr2
    rw [Nat.add_sub_cancel]
    rw [Bool.eq_iff_iff, bne_iff_ne, bne_iff_ne]
    omega)
  obtain ⟨x, hx⟩ : ∃ x, (((p + 1) &&& p : Nat) : Int) = x := ⟨_, rfl⟩
  rw [hx] at hb HR
  clear hx
  go_enter Try.func24, Try.ntmps24
  go_wp2
  go_ret
  exact ⟨by rw [← HR.out]; rfl, rfl⟩
theorem freeN_snoc : ∀ (m i : Nat), freeN i (m + 1) = freeN i m + if fr2 (i + m + 1) then 1 else 0
  | 0, i => by simp [freeN]
  | m + 1, i => by
    rw [show freeN i (m + 1 + 1) = (if fr2 (i + 1) then 1 else 0) + freeN (i + 1) (m + 1) from rfl, freeN_snoc m (i + 1), show freeN i (m + 1) = (if fr2 (i + 1) then 1 else 0) + freeN (i + 1) m from rfl, show i + 1 + m + 1 = i + (m + 1) + 1 by omega]
    omega
theorem freeN_le : ∀ (m i : Nat), freeN i m ≤ m
  | 0, _ => Nat.le_refl _
  | m + 1, i => by
    have := freeN_le m (i + 1)
    unfold freeN
    split <;> omega
set_option maxRecDepth 100000 in
set_option maxHeartbeats 1600000 in
theorem data_any (n : Nat) (hn : n ≤ 64) (w : World) : Calls Try.prog 23 #[.int .i64 n] w fun e w' => e = .returned (.int .i64 (freeN 0 n : Nat)) ∧ w' = w := by
  have HFR := Lib.hid (fun p (hp : p ≤ 1000) W => free_any p hp W)
  go_enter Try.func23, Try.ntmps23
  go_wp2_with fail
  go_loopg [3, 6] (n + 1) (fun gg x3 x6 wr => ∃ (i S : Nat), x6 = .int .i64 (i : Int) ∧ x3 = .int .i64 (S : Int) ∧ i ≤ n ∧ n - i < gg ∧ S = freeN 0 i ∧ wr = w)
  case atStart => exact ⟨0, 0, rfl, rfl, Nat.zero_le _, by omega, rfl, rfl⟩
  case round =>
    obtain ⟨i, S, rfl, rfl, hi, hg, hS, rfl⟩ := hrel
    have HG := Lib.hid hg
    have hSb : S ≤ 64 := by rw [hS]; have := freeN_le i 0; omega
    have HS := Lib.hid hS
    clear hg hS
    by_cases hlt : i < n
    · have hltI : (i : Int) < n := by omega
      have HC := Lib.hid (HFR.out i (by omega) wr)
      have HN := Lib.hid (freeN_snoc i 0)
      rw [Nat.zero_add] at HN
      cases hf : fr2 (i + 1) with
      | true =>
        rw [hf] at HC HN
        clear hf
        go_wp2_with fail
        refine HC.out.mono ?_
        rintro e w2 ⟨rfl, e2⟩
        obtain rfl : wr = w2 := e2.symm
        go_wp2
        go_roundg (n - i)
        case rel => exact ⟨i + 1, S + 1, by go_num, by go_num, by omega, by omega, by rw [HN.out, ← HS.out]; rfl, rfl⟩
        case measure => have := HG.out; omega
      | false =>
        rw [hf] at HC HN
        clear hf
        go_wp2_with fail
        refine HC.out.mono ?_
        rintro e w2 ⟨rfl, e2⟩
        obtain rfl : wr = w2 := e2.symm
        go_wp2
        go_roundg (n - i)
        case rel => exact ⟨i + 1, S, by go_num, rfl, by omega, by omega, by rw [HN.out, ← HS.out]; rfl, rfl⟩
        case measure => have := HG.out; omega
    · obtain rfl : i = n := by omega
      have hB : decide ((i : Int) < i) = false := by simp
      go_wp2
      go_ret
      exact ⟨by rw [← HS.out]; rfl, rfl⟩
set_option maxRecDepth 100000 in
set_option maxHeartbeats 1600000 in
theorem Data_any (n : Nat) (hn : n ≤ 64) (w : World) : Calls Try.prog 11 #[.int .i64 n] w fun e w' => e = .returned (.tuple #[.int .i64 (freeN 0 n : Nat), .int .i64 0]) ∧ w' = w := by
  have HC := Lib.hid (vck_any n 0)
  rw [show vck (n : Int) 0 = 0 from by unfold vck; rw [if_neg (by omega)]] at HC
  have HD := Lib.hid (data_any n hn)
  go_enter Try.func11, Try.ntmps11
  go_wp2_with fail
  refine (HC.out _).mono ?_
  rintro e w1 ⟨rfl, e1⟩
  obtain rfl : w = w1 := e1.symm
  go_wp2_with fail
  refine (HD.out _).mono ?_
  rintro e w1 ⟨rfl, e1⟩
  obtain rfl : w = w1 := e1.symm
  go_wp2
  go_ret2
  exact ⟨rfl, rfl⟩
theorem encB_at (ms : Nat) : ∀ (l : List UInt8) (i j : Nat), j < l.length → (encB ms i l).getD j 0 = if !fr2 (i + j + 1) && (ms &&& (i + j + 1)) != 0 then 49 else l.getD j 0
  | [], _, _, h => by simp at h
  | c :: l, i, 0, _ => by unfold encB; simp
  | c :: l, i, j + 1, h => by
    unfold encB
    rw [List.getD_cons_succ, List.getD_cons_succ, encB_at ms l (i + 1) j (by simpa using h), show i + 1 + j + 1 = i + (j + 1) + 1 by omega]
end Go.Proofs.Gv
