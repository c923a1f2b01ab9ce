/- integer.power. -/
import Derived.Test.YtpdanbnfommbhaaAddP
import Derived.Test.YtpdanbnfommbhaaMul
import Derived.Test.YtpdanbnfommbhaaLengthP
import Derived.Laws.BitsLemmas
set_option linter.unusedSimpArgs false
set_option linter.unusedVariables false
namespace Go.Proofs.Gv
open Go Go.RowKit

theorem i64_and1 (n : Int) : bits .and .i64 n 1 = n % 2 := by
  have h1 : (BitVec.ofInt 64 1).toNat = 2 ^ 1 - 1 := by decide
  have key : (BitVec.ofInt 64 n &&& BitVec.ofInt 64 1).toNat = (n % ((2 ^ 64 : Nat) : Int)).toNat % 2 ^ 1 := by
    rw [BitVec.toNat_and, BitVec.toNat_ofInt, h1, Nat.and_two_pow_sub_one_eq_mod]
  show IntKind.i64.wrap ((BitVec.ofInt 64 n &&& BitVec.ofInt 64 1).toNat : Nat) = n % 2
  rw [key, IntKind.wrap_i64]
  omega
theorem nlen_mul (x y : Nat) : nlen (x * y) ≤ nlen x + nlen y := nlen_le_iff.2 (mul_lt_pow (lt_pow_nlen _) (lt_pow_nlen _))
theorem nlen_one : nlen 1 = 1 := by
  have h1 : nlen 1 ≤ 1 := nlen_le_iff.2 (by decide)
  have h2 : 0 < nlen 1 := lt_nlen_iff.2 (by simp)
  omega
theorem nlen_pow (x : Nat) : ∀ k, nlen (x ^ k) ≤ nlen x * k + 1 := by
  intro k
  rcases Nat.eq_zero_or_pos x with h | h
  · subst h
    rcases k with _ | k
    · rw [Nat.pow_zero, nlen_one]; omega
    · rw [Nat.zero_pow (by omega), nlen_zero]; omega
  · induction k with
    | zero => rw [Nat.pow_zero, nlen_one]; omega
    | succ k ih =>
      rcases Nat.eq_zero_or_pos k with h2 | h2
      · subst h2; simp
      · rw [Nat.pow_succ]
        have := nlen_mul (x ^ k) x
        rw [Nat.mul_succ]
        omega
theorem pow_step (x n i : Nat) : x ^ (n / 2 ^ i) = x ^ (n / 2 ^ (i + 1)) * x ^ (n / 2 ^ (i + 1)) * x ^ (n / 2 ^ i % 2) := by
  rw [← Nat.pow_add, ← Nat.pow_add]
  congr 1
  rw [Nat.pow_succ, ← Nat.div_div_eq_div_mul]
  omega
theorem one_Nt (W : World) : Nt (W.alloc (.cells #[.int .u32 1] 66)) (W.alloc (.cells #[.int .u32 1] 66)).heap.size (some ⟨W.heap.size, 0, none⟩) 1 1 := by
  have hr : (W.alloc (.cells #[.int .u32 1] 66)).rowIs W.heap.size 66 1 (u32s (D 1)) :=
    World.rowIs_alloc W _ _ _ fun i hi => by
      have hi' : i < 1 := by simpa using hi
      obtain rfl : i = 0 := by omega
      simp [u32s, D, B32]
  have := Nt.of_digits hr (by decide) (by omega)
  exact this

set_option maxRecDepth 100000 in
set_option maxHeartbeats 1600000 in
theorem power_any (A : Option Addr) (c x n : Nat) (w : World) (hx : Nt w w.heap.size A c x) (hn : nlen x * n ≤ 5000000) (hn1 : nlen x ≤ 5000000) (hn2 : n < 9223372036854775808) :
    Calls Try.prog 70 #[.slice A (nlen x) c, .int .i64 n] w (RetNat w (x ^ n)) := by
  obtain ⟨L, hL⟩ : ∃ L, Lib.bitLen n = L := ⟨_, rfl⟩
  have HL := Lib.hid (show ∀ W, Calls Try.prog 79 #[.int .u64 n] W fun e w' => e = .returned (.int .i64 (L : Nat)) ∧ W = w' from fun W => (Try.bits_Len (n : Int) W (by omega) (by omega)).mono fun e w' h => ⟨by rw [h.1, Int.toNat_natCast, hL], h.2.symm⟩)
  have hL1 : L ≤ 63 ∧ n < 2 ^ L := by
    rcases Nat.eq_zero_or_pos n with h | h
    · subst h
      have : L = 0 := by rw [← hL]; decide
      subst this; exact ⟨by omega, by decide⟩
    · obtain ⟨a, b, c⟩ := bitLen_bounds 63 n (by omega) (by omega) (by omega)
      rw [hL] at a b c
      refine ⟨?_, c⟩
      have := Lib.bitLen_le n 63 (by omega) (by omega)
      omega
  have hL2 := hL1.1
  have HL1 := Lib.hid hL1.2
  have HX := Lib.hid hx
  clear hx hL hL1
  go_enter Try.func70, Try.ntmps70
  go_wp2_with (go_at_call 79; refine (HL.out _).mono ?_; rintro e w' ⟨rfl, rfl⟩)
  go_loopg [5, 6] (L + 1) (fun g v i wr => ∃ (z : Int) (p : Nat) (A' : Option Addr) (c' : Nat), v = .slice A' (nlen (x ^ (n / 2 ^ p))) c' ∧ i = .int .i64 z ∧ z + 1 = p ∧ p ≤ L ∧ p ≤ g ∧ Nt wr wr.heap.size A' c' (x ^ (n / 2 ^ p)) ∧ Below w.heap.size w wr)
  case atStart =>
    have e : x ^ (n / 2 ^ L) = 1 := by rw [Nat.div_eq_of_lt HL1.out, Nat.pow_zero]
    exact ⟨_, L, some ⟨w.heap.size, 0, none⟩, 1, by rw [e, nlen_one], rfl, by omega, Nat.le_refl _, by omega, by rw [e]; exact one_Nt w, (Below.refl _ _).alloc (Nat.le_refl _) _⟩
  case round =>
    obtain ⟨z, p, A', c', rfl, rfl, hz, hp, hg, hnt, hb⟩ := hrel
    have HB := Lib.hid hb
    have HN := Lib.hid hnt
    clear hb hnt
    rcases p with _ | p
    · obtain rfl : z = -1 := by omega
      clear hz
      have e : n / 2 ^ 0 = n := by rw [Nat.pow_zero, Nat.div_one]
      rw [e] at HN ⊢
      clear e
      go_wp2
      go_ret
      exact ⟨_, _, rfl, HN.out, HB.out⟩
    · obtain rfl : z = p := by omega
      clear hz
      obtain ⟨y, hy⟩ : ∃ y, x ^ (n / 2 ^ (p + 1)) = y := ⟨_, rfl⟩
      have hny : nlen y ≤ 5000001 := by
        rw [← hy]
        refine Nat.le_trans (nlen_pow _ _) ?_
        have : nlen x * (n / 2 ^ (p + 1)) ≤ nlen x * n := Nat.mul_le_mul_left _ (Nat.div_le_self _ _)
        omega
      have hst := pow_step x n p
      rw [hy] at hst HN ⊢
      have HS := Lib.hid hst
      have hnyy : nlen (y * y) ≤ 10000000 := by
        rw [← hy, ← Nat.pow_add]
        refine Nat.le_trans (nlen_pow _ _) ?_
        have h2 : n / 2 ^ (p + 1) + n / 2 ^ (p + 1) ≤ n := by
          rw [Nat.pow_succ, ← Nat.div_div_eq_div_mul]
          have := Nat.div_le_self n (2 ^ p)
          omega
        have : nlen x * (n / 2 ^ (p + 1) + n / 2 ^ (p + 1)) ≤ nlen x * n := Nat.mul_le_mul_left _ h2
        omega
      have hbit : (bits BinOp.and IntKind.i64 ((n : Int) / 2 ^ p) 1 == 1) = decide (n / 2 ^ p % 2 = 1) := by
        rw [i64_and1, Bool.eq_iff_iff, beq_iff_eq, decide_eq_true_eq]
        have : (n : Int) / 2 ^ p = ((n / 2 ^ p : Nat) : Int) := by simp
        rw [this]; omega
      clear hy hst
      by_cases hodd : n / 2 ^ p % 2 = 1
      · have ht : (bits BinOp.and IntKind.i64 ((n : Int) / 2 ^ p) 1 == 1) = true := by rw [hbit, decide_eq_true hodd]
        have HO := Lib.hid hodd
        clear hbit hodd
        go_wp2_with fail
        refine (multiply_any A' A' c' c' y y wr HN.out HN.out (by omega) (by omega)).mono ?_
        rintro e w1 ⟨A1, c1, rfl, hn1', hb1⟩
        have HN1 := Lib.hid hn1'
        have HB1 := Lib.hid (HB.out.trans (hb1.mono HB.out.size))
        clear hn1' hb1
        go_wp2_with fail
        refine (multiply_any A1 A c1 c (y * y) x w1 HN1.out ((HX.out.below HB1.out).more HB1.out.size) (by omega) (by omega)).mono ?_
        rintro e w2 ⟨A2, c2, rfl, hn2', hb2⟩
        have HN2 := Lib.hid hn2'
        have HB2 := Lib.hid (HB1.out.trans (hb2.mono HB1.out.size))
        clear hn2' hb2
        go_wp2
        go_roundg p
        case rel =>
          have e : x ^ (n / 2 ^ p) = y * y * x := by rw [HS.out, HO.out, Nat.pow_one]
          exact ⟨_, p, A2, c2, by rw [e], rfl, by omega, by omega, by omega, by rw [e]; exact HN2.out, HB2.out⟩
        case measure => omega
      · have ht : (bits BinOp.and IntKind.i64 ((n : Int) / 2 ^ p) 1 == 1) = false := by rw [hbit, decide_eq_false hodd]
        have HO := Lib.hid (show n / 2 ^ p % 2 = 0 by omega)
        clear hbit hodd
        go_wp2_with fail
        refine (multiply_any A' A' c' c' y y wr HN.out HN.out (by omega) (by omega)).mono ?_
        rintro e w1 ⟨A1, c1, rfl, hn1', hb1⟩
        have HN1 := Lib.hid hn1'
        have HB1 := Lib.hid (HB.out.trans (hb1.mono HB.out.size))
        clear hn1' hb1
        go_wp2
        go_roundg p
        case rel =>
          have e : x ^ (n / 2 ^ p) = y * y := by rw [HS.out, HO.out, Nat.pow_zero, Nat.mul_one]
          exact ⟨_, p, A1, c1, by rw [e], rfl, by omega, by omega, by omega, by rw [e]; exact HN1.out, HB1.out⟩
        case measure => omega
end Go.Proofs.Gv
