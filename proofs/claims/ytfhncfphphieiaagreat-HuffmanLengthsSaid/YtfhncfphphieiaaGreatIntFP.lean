import Derived.Laws.BitsLemmas
import Derived.Laws.CopyOwn
import Derived.BigRegion
import Derived.Deep.RegionHeld3
import Derived.Test.YtfhncfphphieiaaGreatProg
import Derived.Laws.IdiomStrings
import Derived.Laws.BytesArg
import Derived.Sort.Row
import Derived.Lib.Builder
import Derived.Shelf.Strings.Builder1
import Derived.Test.YtfhncfphphieiaaGreatIntDP
import Derived.Deep.DeepCutAuto
import Derived.BigQuiet
import Derived.Deep.QuietTactic
set_option maxHeartbeats 1600000
set_option maxRecDepth 100000
set_option linter.unusedSimpArgs false
set_option linter.unusedVariables false
namespace Go.Proofs.Gv
open Go Go.RowKit
def bl (x : Nat) : Nat := if nlen x = 0 then 0 else 32 * (nlen x - 1) + Lib.bitLen (D x (nlen x - 1))
theorem bl_zero : bl 0 = 0 := by simp [bl, nlen_zero]
theorem bl_spec {x : Nat} (h : x ≠ 0) : 0 < bl x ∧ 2 ^ (bl x - 1) ≤ x ∧ x < 2 ^ bl x := by
 have h0 : nlen x ≠ 0 := mt nlen_eq_zero.1 h
 obtain ⟨h1, h2⟩ := D_top h
 obtain ⟨a, b, c⟩ := bitLen_bounds 32 (D x (nlen x - 1)) (D_lt _ _) (by omega) (by omega)
 have e : bl x = 32 * (nlen x - 1) + Lib.bitLen (D x (nlen x - 1)) := by unfold bl; rw [if_neg h0]
 have hB : B32 ^ (nlen x - 1) = 2 ^ (32 * (nlen x - 1)) := by rw [Nat.pow_mul]; rfl
 have hle := Nat.div_mul_le_self x (B32 ^ (nlen x - 1))
 have hlt := Nat.lt_mul_div_succ x (pow_pos (nlen x - 1))
 rw [← h1] at hle hlt
 rw [e]
 refine ⟨by omega, ?_, ?_⟩
 ·rw [show 32 * (nlen x - 1) + Lib.bitLen (D x (nlen x - 1)) - 1 = Lib.bitLen (D x (nlen x - 1)) - 1 + 32 * (nlen x - 1) by omega, Nat.pow_add, ← hB]
  exact Nat.le_trans (Nat.mul_le_mul_right _ b) hle
 ·rw [Nat.pow_add, ← hB]
  exact Nat.lt_of_lt_of_le hlt (Nat.mul_le_mul_left _ c)
theorem bl_le_iff {x n : Nat} : bl x ≤ n ↔ x < 2 ^ n := by
 by_cases h : x = 0
 ·subst h; rw [bl_zero]; simp [Nat.pow_pos]
 ·obtain ⟨a, b, c⟩ := bl_spec h
  constructor
  ·intro hn; exact Nat.lt_of_lt_of_le c (Nat.pow_le_pow_right (by decide) hn)
  ·intro hn
   apply Classical.byContradiction
   intro hc
   have : 2 ^ n ≤ 2 ^ (bl x - 1) := Nat.pow_le_pow_right (by decide) (by omega)
   omega
theorem bl_bound (x : Nat) : bl x ≤ 32 * nlen x := by
 rw [bl_le_iff, Nat.pow_mul]
 exact lt_pow_nlen x
theorem nlen_bl (x : Nat) : 32 * nlen x ≤ bl x + 31 := by
 by_cases h : x = 0
 ·subst h; rw [nlen_zero]; omega
 ·have h0 : nlen x ≠ 0 := mt nlen_eq_zero.1 h
  unfold bl
  rw [if_neg h0]
  have := (D_top h).2
  obtain ⟨a, _, _⟩ := bitLen_bounds 32 (D x (nlen x - 1)) (D_lt _ _) (by omega) (by omega)
  omega
theorem len32_any (d : Nat) (w : World) (h : d < 4294967296) :
  Calls Tryz.prog 113 #[.int .u32 (d : Nat)] w fun e w' => e = .returned (.int .i64 (Lib.bitLen d : Nat)) ∧ w = w' := by
 refine (Tryz.bits_Len32 (d : Int) w (by omega) (by omega)).mono ?_
 rintro e w' ⟨rfl, rfl⟩
 exact ⟨by rw [Int.toNat_natCast], rfl⟩
theorem length_any (A : Option Addr) (c x : Nat) (w : World) (hx : Nt w w.heap.size A c x) (hn : nlen x ≤ 10000000) :
  Calls Tryz.prog 99 #[.slice A (nlen x) c] w fun e w' => e = .returned (.int .i64 (bl x : Nat)) ∧ w = w' := by
 by_cases h0 : nlen x = 0
 ·have e : bl x = 0 := by unfold bl; rw [if_pos h0]
  rw [h0, e]
  clear e h0
  go_enter Tryz.func99, Tryz.ntmps99
  go_wp2
  go_ret
  exact ⟨rfl, rfl⟩
 ·obtain ⟨g, rfl, hg, hcell⟩ := hx.rd (by omega)
  have hc0 := hcell (nlen x - 1) (by omega)
  have hd := D_lt' x (nlen x - 1)
  have h1 : ((nlen x : Int) == 0) = false := by rw [beq_eq_false_iff_ne]; omega
  have hb : Lib.bitLen (D x (nlen x - 1)) ≤ 32 := Lib.bitLen_le _ 32 (by omega) hd
  have HE : Hid (bl x = 32 * (nlen x - 1) + Lib.bitLen (D x (nlen x - 1))) := by unfold Hid bl; rw [if_neg h0]
  clear hcell hx
  go_enter Tryz.func99, Tryz.ntmps99
  go_wp2_with fail
  refine (len32_any _ _ hd).mono ?_
  rintro e w' ⟨rfl, rfl⟩
  go_wp2
  go_ret
  refine ⟨?_, rfl⟩
  rw [HE.out]
  show Ending.returned (Value.int .i64 _) = _
  congr 2
  omega
theorem i64_and1 (n : Int) : bits .and .i64 n 1 = n % 2 := by
 have h1 : (BitVec.ofInt 64 1).toNat = 2 ^ 1 - 1 := by decide
 have key : (BitVec.ofInt 64 n &&& BitVec.ofInt 64 1).toNat = (n % ((2 ^ 64 : Nat) : Int)).toNat % 2 ^ 1 := by
  rw [BitVec.toNat_and, BitVec.toNat_ofInt, h1, Nat.and_two_pow_sub_one_eq_mod]
 show IntKind.i64.wrap ((BitVec.ofInt 64 n &&& BitVec.ofInt 64 1).toNat : Nat) = n % 2
 rw [key, IntKind.wrap_i64]
 omega
theorem nlen_mul (x y : Nat) : nlen (x * y) ≤ nlen x + nlen y := nlen_le_iff.2 (mul_lt_pow (lt_pow_nlen _) (lt_pow_nlen _))
theorem nlen_one : nlen 1 = 1 := by
 have h1 : nlen 1 ≤ 1 := nlen_le_iff.2 (by decide)
 have h2 : 0 < nlen 1 := lt_nlen_iff.2 (by simp)
 omega
theorem nlen_pow (x : Nat) : ∀ k, nlen (x ^ k) ≤ nlen x * k + 1 := by
 intro k
 rcases Nat.eq_zero_or_pos x with h | h
 ·subst h
  rcases k with _ | k
  ·rw [Nat.pow_zero, nlen_one]; omega
  ·rw [Nat.zero_pow (by omega), nlen_zero]; omega
 ·induction k with
  | zero => rw [Nat.pow_zero, nlen_one]; omega
  | succ k ih =>
    rcases Nat.eq_zero_or_pos k with h2 | h2
    ·subst h2; simp
    ·rw [Nat.pow_succ]
     have := nlen_mul (x ^ k) x
     rw [Nat.mul_succ]
     omega
theorem pow_step (x n i : Nat) : x ^ (n / 2 ^ i) = x ^ (n / 2 ^ (i + 1)) * x ^ (n / 2 ^ (i + 1)) * x ^ (n / 2 ^ i % 2) := by
 rw [← Nat.pow_add, ← Nat.pow_add]
 congr 1
 rw [Nat.pow_succ, ← Nat.div_div_eq_div_mul]
 omega
theorem one_Nt (W : World) : Nt (W.alloc (.cells #[.int .u32 1] 74)) (W.alloc (.cells #[.int .u32 1] 74)).heap.size (some ⟨W.heap.size, 0, none⟩) 1 1 := by
 have hr : (W.alloc (.cells #[.int .u32 1] 74)).rowIs W.heap.size 74 1 (u32s (D 1)) :=
  World.rowIs_alloc W _ _ _ fun i hi => by
   have hi' : i < 1 := by simpa using hi
   obtain rfl : i = 0 := by omega
   simp [u32s, D, B32]
 have := Nt.of_digits hr (by decide) (by omega)
 exact this
theorem power_any (A : Option Addr) (c x n : Nat) (w : World) (hx : Nt w w.heap.size A c x) (hn : nlen x * n ≤ 5000000) (hn1 : nlen x ≤ 5000000) (hn2 : n < 9223372036854775808) :
  Calls Tryz.prog 100 #[.slice A (nlen x) c, .int .i64 n] w (RetNat w (x ^ n)) := by
 obtain ⟨L, hL⟩ : ∃ L, Lib.bitLen n = L := ⟨_, rfl⟩
 have HL := Lib.hid (show ∀ W, Calls Tryz.prog 114 #[.int .u64 n] W fun e w' => e = .returned (.int .i64 (L : Nat)) ∧ W = w' from fun W => (Tryz.bits_Len (n : Int) W (by omega) (by omega)).mono fun e w' h => ⟨by rw [h.1, Int.toNat_natCast, hL], h.2.symm⟩)
 have hL1 : L ≤ 63 ∧ n < 2 ^ L := by
  rcases Nat.eq_zero_or_pos n with h | h
  ·subst h
   have : L = 0 := by rw [← hL]; decide
   subst this; exact ⟨by omega, by decide⟩
  ·obtain ⟨a, b, c⟩ := bitLen_bounds 63 n (by omega) (by omega) (by omega)
   rw [hL] at a b c
   refine ⟨?_, c⟩
   have := Lib.bitLen_le n 63 (by omega) (by omega)
   omega
 have hL2 := hL1.1
 have HL1 := Lib.hid hL1.2
 have HX := Lib.hid hx
 clear hx hL hL1
 go_enter Tryz.func100, Tryz.ntmps100
 go_wp2_with (go_at_call 114; refine (HL.out _).mono ?_; rintro e w' ⟨rfl, rfl⟩)
 go_loopg [5, 6] (L + 1) (fun g v i wr => ∃ (z : Int) (p : Nat) (A' : Option Addr) (c' : Nat), v = .slice A' (nlen (x ^ (n / 2 ^ p))) c' ∧ i = .int .i64 z ∧ z + 1 = p ∧ p ≤ L ∧ p ≤ g ∧ Nt wr wr.heap.size A' c' (x ^ (n / 2 ^ p)) ∧ Below w.heap.size w wr)
 case atStart =>
  have e : x ^ (n / 2 ^ L) = 1 := by rw [Nat.div_eq_of_lt HL1.out, Nat.pow_zero]
  exact ⟨_, L, some ⟨w.heap.size, 0, none⟩, 1, by rw [e, nlen_one], rfl, by omega, Nat.le_refl _, by omega, by rw [e]; exact one_Nt w, (Below.refl _ _).alloc (Nat.le_refl _) _⟩
 case round =>
  obtain ⟨z, p, A', c', rfl, rfl, hz, hp, hg, hnt, hb⟩ := hrel
  have HB := Lib.hid hb
  have HN := Lib.hid hnt
  clear hb hnt
  rcases p with _ | p
  ·obtain rfl : z = -1 := by omega
   clear hz
   have e : n / 2 ^ 0 = n := by rw [Nat.pow_zero, Nat.div_one]
   rw [e] at HN ⊢
   clear e
   go_wp2
   go_ret
   exact ⟨_, _, rfl, HN.out, HB.out⟩
  ·obtain rfl : z = p := by omega
   clear hz
   obtain ⟨y, hy⟩ : ∃ y, x ^ (n / 2 ^ (p + 1)) = y := ⟨_, rfl⟩
   have hny : nlen y ≤ 5000001 := by
    rw [← hy]
    refine Nat.le_trans (nlen_pow _ _) ?_
    have : nlen x * (n / 2 ^ (p + 1)) ≤ nlen x * n := Nat.mul_le_mul_left _ (Nat.div_le_self _ _)
    omega
   have hst := pow_step x n p
   rw [hy] at hst HN ⊢
   have HS := Lib.hid hst
   have hnyy : nlen (y * y) ≤ 10000000 := by
    rw [← hy, ← Nat.pow_add]
    refine Nat.le_trans (nlen_pow _ _) ?_
    have h2 : n / 2 ^ (p + 1) + n / 2 ^ (p + 1) ≤ n := by
     rw [Nat.pow_succ, ← Nat.div_div_eq_div_mul]
     have := Nat.div_le_self n (2 ^ p)
     omega
    have : nlen x * (n / 2 ^ (p + 1) + n / 2 ^ (p + 1)) ≤ nlen x * n := Nat.mul_le_mul_left _ h2
    omega
   have hbit : (bits BinOp.and IntKind.i64 ((n : Int) / 2 ^ p) 1 == 1) = decide (n / 2 ^ p % 2 = 1) := by
    rw [i64_and1, Bool.eq_iff_iff, beq_iff_eq, decide_eq_true_eq]
    have : (n : Int) / 2 ^ p = ((n / 2 ^ p : Nat) : Int) := by simp
    rw [this]; omega
   clear hy hst
   by_cases hodd : n / 2 ^ p % 2 = 1
   ·have ht : (bits BinOp.and IntKind.i64 ((n : Int) / 2 ^ p) 1 == 1) = true := by rw [hbit, decide_eq_true hodd]
    have HO := Lib.hid hodd
    clear hbit hodd
    go_wp2_with fail
    refine (multiply_any A' A' c' c' y y wr HN.out HN.out (by omega) (by omega)).mono ?_
    rintro e w1 ⟨A1, c1, rfl, hn1', hb1⟩
    have HN1 := Lib.hid hn1'
    have HB1 := Lib.hid (HB.out.trans (hb1.mono HB.out.size))
    clear hn1' hb1
    go_wp2_with fail
    refine (multiply_any A1 A c1 c (y * y) x w1 HN1.out ((HX.out.below HB1.out).more HB1.out.size) (by omega) (by omega)).mono ?_
    rintro e w2 ⟨A2, c2, rfl, hn2', hb2⟩
    have HN2 := Lib.hid hn2'
    have HB2 := Lib.hid (HB1.out.trans (hb2.mono HB1.out.size))
    clear hn2' hb2
    go_wp2
    go_roundg p
    case rel =>
     have e : x ^ (n / 2 ^ p) = y * y * x := by rw [HS.out, HO.out, Nat.pow_one]
     exact ⟨_, p, A2, c2, by rw [e], rfl, by omega, by omega, by omega, by rw [e]; exact HN2.out, HB2.out⟩
    case measure => omega
   ·have ht : (bits BinOp.and IntKind.i64 ((n : Int) / 2 ^ p) 1 == 1) = false := by rw [hbit, decide_eq_false hodd]
    have HO := Lib.hid (show n / 2 ^ p % 2 = 0 by omega)
    clear hbit hodd
    go_wp2_with fail
    refine (multiply_any A' A' c' c' y y wr HN.out HN.out (by omega) (by omega)).mono ?_
    rintro e w1 ⟨A1, c1, rfl, hn1', hb1⟩
    have HN1 := Lib.hid hn1'
    have HB1 := Lib.hid (HB.out.trans (hb1.mono HB.out.size))
    clear hn1' hb1
    go_wp2
    go_roundg p
    case rel =>
     have e : x ^ (n / 2 ^ p) = y * y := by rw [HS.out, HO.out, Nat.pow_zero, Nat.mul_one]
     exact ⟨_, p, A1, c1, by rw [e], rfl, by omega, by omega, by omega, by rw [e]; exact HN1.out, HB1.out⟩
    case measure => omega
def RetIE (w : World) (z e0 : Int) (e : Ending) (w' : World) : Prop := e = .returned (.tuple #[.agg #[.bool (sgn z), .string (mg z.natAbs)], .int .i64 e0]) ∧ Below w.heap.size w w'
def powE (z n : Int) : Int := if n < 0 ∨ 4096 < n then 2 else if 65536 < n.toNat * bl z.natAbs then 4 else 0
def powV (z n : Int) : Int := if powE z n = 0 then z ^ n.toNat else 0
theorem pow_sign (na : Bool) (x n : Nat) : (if na then -(x : Int) else x) ^ n = if (na && decide (n % 2 = 1)) then -((x ^ n : Nat) : Int) else ((x ^ n : Nat) : Int) := by
 cases na
 ·simp
 ·simp only [if_true, Bool.true_and, decide_eq_true_eq]
  rw [Int.neg_pow]
  by_cases h : n % 2 = 1
  ·rw [if_pos h, h, Int.pow_one]; simp
  ·rw [if_neg h, show n % 2 = 0 by omega, Int.pow_zero]; simp
theorem Power_any (na : Bool) (sa : ByteArray) (n : Int) (w : World) (ha : sa.size ≤ 15000000) (hn1 : -9223372036854775808 ≤ n) (hn2 : n < 9223372036854775808) :
  Calls Tryz.prog 70 #[.agg #[.bool na, .string sa], .int .i64 n] w (RetIE w (powV (iv na sa) n) (powE (iv na sa) n)) := by
 have hz0 : mg (0 : Int).natAbs = ⟨#[]⟩ := mg_zero
 by_cases hr : n < 0 ∨ 4096 < n
 ·have he : powE (iv na sa) n = 2 := by unfold powE; rw [if_pos hr]
  have hv : powV (iv na sa) n = 0 := by unfold powV; rw [he]; rfl
  rw [he, hv]
  unfold RetIE
  rw [hz0]
  clear he hv
  rcases hr with h | h
  all_goals
   go_enter Tryz.func70, Tryz.ntmps70
   go_wp2
   refine bodyPost_ret (v := .tuple #[.agg #[.bool false, .string ⟨#[]⟩], .int .i64 2]) (by simp [results, Tryz.results70, go_sem]) rfl ?_
   refine ⟨rfl, ?_⟩
   have hO := Own.two w (.cells #[.bool na, .string sa] 36) (.cells #[.bool false, .string ⟨#[]⟩] 36)
   exact hO.below
 ·have l1 := nlen_bv (s := sa)
  obtain ⟨x, hx⟩ : ∃ x, bv sa.data.toList = x := ⟨_, rfl⟩
  have hiv : iv na sa = if na then -(x : Int) else x := by unfold iv; rw [hx]
  have habs : (iv na sa).natAbs = x := by rw [iv_abs, hx]
  have HD := Lib.hid (fun W => hx ▸ digits_any na sa W (by omega) : ∀ W, Calls Tryz.prog 73 #[.agg #[.bool na, .string sa]] W (RetNat W x))
  rw [hx] at l1
  obtain ⟨k, rfl⟩ : ∃ k : Nat, n = k := ⟨n.toNat, by omega⟩
  have hk : k ≤ 4096 := by omega
  clear hn1 hn2
  have hbl := bl_bound x
  have hbn := nlen_bl x
  have HE := Lib.hid (show powE (iv na sa) k = if 65536 < k * bl x then 4 else 0 by unfold powE; rw [if_neg hr, habs]; rfl)
  have HP := Lib.hid (show iv na sa ^ k = if (na && decide (k % 2 = 1)) then -((x ^ k : Nat) : Int) else ((x ^ k : Nat) : Int) by rw [hiv]; exact pow_sign na x k)
  have t1 : ¬ (k : Int) < 0 := by omega
  have t2 : ¬ (4096 : Int) < k := by omega
  clear hr hiv habs hx
  obtain ⟨b, hb⟩ : ∃ b, bl x = b := ⟨_, rfl⟩
  rw [hb] at hbl hbn HE
  have HLn := Lib.hid (fun A c W h1 h2 => hb ▸ length_any A c x W h1 h2 : ∀ A c W, Nt W W.heap.size A c x → nlen x ≤ 10000000 → Calls Tryz.prog 99 #[.slice A (nlen x) c] W fun e w' => e = .returned (.int .i64 (b : Nat)) ∧ W = w')
  clear hb
  have hO := Lib.hid (Own.two w (.cells #[.bool na, .string sa] 36) (.cells #[.bool false, .string ⟨#[]⟩] 36))
  have hm : 0 ≤ (k : Int) * b ∧ (k : Int) * b ≤ 9000000000000 := by
   constructor
   ·exact Int.mul_nonneg (by omega) (by omega)
   ·have : k * b ≤ 4096 * 2000000000 := Nat.mul_le_mul hk (by omega)
    have h2 : ((k * b : Nat) : Int) = (k : Int) * b := by simp
    omega
  obtain ⟨hm1, hm2⟩ := hm
  by_cases hlim : 65536 < k * b
  ·have t3 : (65536 : Int) < (k : Int) * b := by
    have h2 : ((k * b : Nat) : Int) = (k : Int) * b := by simp
    omega
   have he : powE (iv na sa) k = 4 := by rw [HE.out, if_pos hlim]
   have hv : powV (iv na sa) k = 0 := by unfold powV; rw [he]; rfl
   rw [he, hv]
   unfold RetIE
   rw [hz0]
   clear he hv hlim
   go_enter Tryz.func70, Tryz.ntmps70
   obtain ⟨q, hq⟩ : ∃ q : Int, (k : Int) * b = q := ⟨_, rfl⟩
   rw [hq] at hm1 hm2 t3
   have HQ := Lib.hid hq
   clear hq
   go_wp2_with fail
   refine (HD.out _).mono ?_
   rintro e w1 ⟨A, c, rfl, hn, hb⟩
   have HO1 := Lib.hid (hO.out.next hb)
   have HN1 := Lib.hid hn
   obtain ⟨a0, a1, a2, a3, a4⟩ := HO1.out.blk 1 (w.heap.size + 1) rfl rfl
   clear hb hn
   go_wp2_with fail
   refine (HLn.out A c _ HN1.out (by omega)).mono ?_
   rintro e w2 ⟨rfl, rfl⟩
   have hq := HQ.out
   go_wp2
   refine bodyPost_ret (v := .tuple #[.agg #[.bool false, .string ⟨#[]⟩], .int .i64 4]) (by simp [results, Tryz.results70, go_sem, a0, a1]) rfl ?_
   exact ⟨rfl, HO1.out.stored (w.heap.size + 1) (by omega) _ _⟩
  ·have t3 : ¬ (65536 : Int) < (k : Int) * b := by
    have h2 : ((k * b : Nat) : Int) = (k : Int) * b := by simp
    omega
   have he : powE (iv na sa) k = 0 := by rw [HE.out, if_neg hlim]
   have hv : powV (iv na sa) k = iv na sa ^ k := by unfold powV; rw [he]; rfl
   rw [he, hv]
   clear he hv
   have hnk : nlen x * k ≤ 5000000 := by
    have : 32 * nlen x * k ≤ (b + 31) * k := Nat.mul_le_mul_right _ hbn
    rw [Nat.add_mul, Nat.mul_comm b k, Nat.mul_assoc] at this
    omega
   have hnp := nlen_pow x k
   have HPw := Lib.hid (fun A c W h => power_any A c x k W h hnk (by omega) (by omega))
   clear hlim
   obtain ⟨q, hq⟩ : ∃ q : Int, (k : Int) * b = q := ⟨_, rfl⟩
   rw [hq] at hm1 hm2 t3
   have HQ := Lib.hid hq
   have hq3 : q ≤ 65536 := by omega
   clear hq hm2
   have fin : ∀ t : Bool, ((k : Int) % 2 == 1) = t → decide (k % 2 = 1) = t → Calls Tryz.prog 70 #[.agg #[.bool na, .string sa], .int .i64 k] w (RetIE w (iv na sa ^ k) 0) := by
    intro t t4 t5
    rw [t5] at HP
    obtain ⟨s, hs⟩ : ∃ s, (na && t) = s := ⟨_, rfl⟩
    have HS := Lib.hid hs
    clear t5
    cases na <;> cases t
    all_goals
     simp only [Bool.true_and, Bool.false_and] at hs
     subst hs
     go_enter Tryz.func70, Tryz.ntmps70
     go_wp2_with fail
     refine (HD.out _).mono ?_
     rintro e w1 ⟨A, c, rfl, hn, hb⟩
     have HO1 := Lib.hid (hO.out.next hb)
     have HN1 := Lib.hid hn
     obtain ⟨a0, a1, a2, a3, a4⟩ := HO1.out.blk 1 (w.heap.size + 1) rfl rfl
     obtain ⟨b0, b1, b2, b3, b4⟩ := HO1.out.blk 0 w.heap.size rfl rfl
     clear hb hn
     go_wp2_with fail
     refine (HLn.out A c _ HN1.out (by omega)).mono ?_
     rintro e w2 ⟨rfl, rfl⟩
     have hq := HQ.out
     go_wp2_with fail
     refine (HPw.out A c _ HN1.out).mono ?_
     rintro e w3 ⟨A3, c3, rfl, hn3, hb3⟩
     have HO3 := Lib.hid (HO1.out.next hb3)
     have HN3 := Lib.hid hn3
     obtain ⟨d0, d1, d2, d3, d4⟩ := HO3.out.blk 1 (w.heap.size + 1) rfl rfl
     clear hb3 hn3 a0 a1 a2 a3 a4 b0 b1 b2 b3 b4
     go_wp2_with fail
     refine (number_nt _ A3 c3 _ _ HN3.out (by omega)).mono ?_
     rintro e w4 ⟨rfl, hb4⟩
     have HO4 := Lib.hid (HO3.out.next hb4)
     obtain ⟨j0, j1, j2, j3, j4⟩ := HO4.out.blk 1 (w.heap.size + 1) rfl rfl
     clear hb4 d0 d1 d2 d3 d4
     go_wp2
     refine bodyPost_ret (v := .tuple #[.agg #[.bool (sg _ (x ^ k)), .string (mg (x ^ k))], .int .i64 0]) (by simp [results, Tryz.results70, go_sem, j0, j1]; rfl) rfl ?_
     refine ⟨?_, HO4.out.stored (w.heap.size + 1) (by omega) _ _⟩
     rw [HP.out, ← sg_eq, abs_eq]
     rfl
   by_cases hodd : k % 2 = 1
   ·exact fin true (by rw [beq_iff_eq]; omega) (decide_eq_true hodd)
   ·exact fin false (by rw [beq_eq_false_iff_ne]; omega) (decide_eq_false hodd)
open Classical in
structure RtSt (w wr : World) (bx : Nat) (n x : Nat) (Ax : Option Addr) (cx : Nat) : Prop where
 cn : wr.cell? ⟨w.heap.size + 1, 0, none⟩ = some (.int .i64 n)
 cb : wr.cell? ⟨bx, 0, none⟩ = some (.slice Ax (nlen x) cx)
 nx : Nt wr wr.heap.size Ax cx x
 r0 : ∃ v, wr.cell? ⟨w.heap.size + 1 + 1, 0, none⟩ = some v
 r1 : ∃ v, wr.cell? ⟨w.heap.size + 1 + 1, 1, none⟩ = some v
 g0 : wr.frozen? ⟨w.heap.size + 1 + 1, 0, none⟩ = false
 g1 : wr.frozen? ⟨w.heap.size + 1 + 1, 1, none⟩ = false
 ln : w.heap.size + 1 + 1 < bx
 lx : bx < wr.heap.size
 be : Below w.heap.size w wr
theorem RtSt.next {w wr W' : World} {bx n x : Nat} {Ax : Option Addr} {cx : Nat} (h : RtSt w wr bx n x Ax cx) (hb : Below wr.heap.size wr W') : RtSt w W' bx n x Ax cx := by
 have h1 := h.ln
 have h2 := h.lx
 have h3 := h.be.size
 exact ⟨(hb.cell (p := ⟨w.heap.size + 1, 0, none⟩) (by show w.heap.size + 1 < _; omega)).trans h.cn, (hb.cell (p := ⟨bx, 0, none⟩) h2).trans h.cb, h.nx.next hb,
  h.r0.imp fun v hv => (hb.cell (p := ⟨w.heap.size + 1 + 1, 0, none⟩) (by show w.heap.size + 1 + 1 < _; omega)).trans hv, h.r1.imp fun v hv => (hb.cell (p := ⟨w.heap.size + 1 + 1, 1, none⟩) (by show w.heap.size + 1 + 1 < _; omega)).trans hv,
  (hb.frozen (p := ⟨w.heap.size + 1 + 1, 0, none⟩) (by show w.heap.size + 1 + 1 < _; omega)).trans h.g0, (hb.frozen (p := ⟨w.heap.size + 1 + 1, 1, none⟩) (by show w.heap.size + 1 + 1 < _; omega)).trans h.g1,
  h1, Nat.lt_of_lt_of_le h2 hb.size, h.be.trans (hb.mono h3)⟩
structure BRow (W : World) (g n : Nat) (f : Nat → UInt8) : Prop where
 lt : g < W.heap.size
 cell : ∀ j, j < n → W.cell? ⟨g, j, none⟩ = some (.int .u8 (f j).toNat)
 fz : ∀ j, j < n → W.frozen? ⟨g, j, none⟩ = false
def at' (s : ByteArray) (i : Nat) : UInt8 := s.data.toList.getD i 0
theorem at'_eq {s : ByteArray} {i : Nat} (h : i < s.size) : s[i]'h = at' s i := by
 unfold at'
 have hl : s.data.toList.length = s.size := by simp
 rw [List.getD_eq_getElem?_getD, List.getElem?_eq_getElem (by omega), Option.getD_some]
 rfl
theorem BRow.congr {W : World} {g n : Nat} {f h : Nat → UInt8} (H : BRow W g n f) (e : ∀ j, j < n → f j = h j) : BRow W g n h :=
 ⟨H.lt, fun j hj => by rw [H.cell j hj, e j hj], H.fz⟩
theorem BRow.same {W W' : World} {g n : Nat} {f : Nat → UInt8} (H : BRow W g n f) (e : W'.heap = W.heap := by rfl) : BRow W' g n f :=
 ⟨by rw [e]; exact H.lt, fun j hj => by rw [World.cell?_of_block (w := W) (by rw [e])]; exact H.cell j hj, fun j hj => by
  have := H.fz j hj
  unfold World.frozen? at this ⊢
  rw [e]; exact this⟩
theorem BRow.below {W W' : World} {B g n : Nat} {f : Nat → UInt8} (H : BRow W g n f) (hb : Below B W W') (hg : g < B) : BRow W' g n f :=
 ⟨Nat.lt_of_lt_of_le H.lt hb.size, fun j hj => (hb.cell (p := ⟨g, j, none⟩) hg).trans (H.cell j hj), fun j hj => (hb.frozen (p := ⟨g, j, none⟩) hg).trans (H.fz j hj)⟩
theorem BRow.set {W : World} {g n : Nat} {f : Nat → UInt8} (H : BRow W g n f) (k : Nat) (hk : k < n) (c : UInt8) : BRow (W.setCell ⟨g, k, none⟩ (.int .u8 c.toNat)) g n (fun j => if j = k then c else f j) := by
 refine ⟨by simpa using H.lt, fun j hj => ?_, fun j hj => by rw [World.frozen?_setCell]; exact H.fz j hj⟩
 by_cases e : j = k
 ·subst e
  rw [if_pos rfl, World.cell?_setCell_same _ _ _ (H.cell j hj)]
 ·rw [if_neg e]
  exact (World.cell?_setCell_other W _ _ _ (fun h => e (by have := congrArg Addr.off h; simpa using this.symm))).trans (H.cell j hj)
theorem BRow.set' {W : World} {g n : Nat} {f : Nat → UInt8} (H : BRow W g n f) (k : Nat) (hk : k < n) {V : Int} {c : UInt8} (hV : V = (c.toNat : Int)) : BRow (W.setCell ⟨g, k, none⟩ (.int .u8 V)) g n (fun j => if j = k then c else f j) := by
 subst hV; exact H.set k hk c
theorem map_at' (s : ByteArray) : (⟨((List.range s.size).map (at' s)).toArray⟩ : ByteArray) = s := by
 rcases s with ⟨⟨l⟩⟩
 congr 2
 apply List.ext_getElem
 ·simp [ByteArray.size]
 ·intro i h1 h2
  simp at h1
  simp [at', ByteArray.size, h2]
def strV (P : List (List UInt8)) : List Value := P.map fun l => .string ⟨l.toArray⟩
theorem Nt.grown {W w1 : World} {B : Nat} {A : Option Addr} {c x : Nat} {v : Value} {n : Nat} {P : List (List UInt8)} {tmp : Obj} (h : Nt W W.heap.size A c x) (ho : W.ownsRow B 9 1 v n (strV P)) (hn0 : P = [] → v = .slice none 0 0) (hg : (W.alloc tmp).grownBy w1 v.ownBlock) : Nt w1 w1.heap.size A c x := by
 refine ⟨h.le, h.bd, fun hn => ?_⟩
 obtain ⟨g, e, hgl, hc⟩ := h.rd hn
 have hne : some g ≠ v.ownBlock := by
  intro e2
  rcases ho.2 with ⟨rfl, _⟩ | ⟨g', cap, cur, rfl, _, hg', _, _, _, ht⟩
  ·cases e2
  ·have : g = g' := by injection e2
   subst this
   have hP : P ≠ [] := fun hP => by have := hn0 hP; cases this
   obtain ⟨a, P', rfl⟩ : ∃ a P', P = a :: P' := by
    cases P with
    | nil => exact absurd rfl hP
    | cons a P' => exact ⟨a, P', rfl⟩
   have h1 := hc 0 hn
   have h2 : (cur.toList.take (n * 1))[0]? = some (.string ⟨a.toArray⟩) := by rw [ht]; rfl
   have h3 : cur[0]? = some (.string ⟨a.toArray⟩) := by
    rw [List.getElem?_take] at h2
    split at h2
    ·simpa using h2
    ·cases h2
   have h4 : W.cell? ⟨g, 0, none⟩ = some (.string ⟨a.toArray⟩) := by simp [World.cell?, hg', h3]
   rw [h1] at h4
   cases h4
 have hsz : W.heap.size + 1 ≤ w1.heap.size := by have := hg.size; simpa using this
 refine ⟨g, e, by omega, fun j hj => ?_⟩
 have hb : w1.heap[g]? = W.heap[g]? := by
  rw [hg.block g (by simp; omega) hne]
  exact Below.heap_alloc W tmp g hgl
 rw [World.cell?_of_block (w := W) (by exact hb)]
 exact hc j hj
theorem vsize {z : Int} (h : z.natAbs < 256 ^ 60) : (mg z.natAbs).size ≤ 60 := size_mg h
theorem vs {z : Int} (h : z.natAbs < 256 ^ 60) : (mg z.natAbs).size ≤ 1000000 := Nat.le_trans (vsize h) (by decide)
theorem div_uniq {a b q r q' r' : Int} (h : DivSpec a b q r) (h' : DivSpec a b q' r') : q = q' ∧ r = r' := by
 obtain ⟨e, h⟩ := h
 obtain ⟨e', h'⟩ := h'
 have hq : (q - q') * b = r' - r := by rw [Int.sub_mul]; omega
 have hz : q - q' = 0 := by
  rcases Int.lt_trichotomy (q - q') 0 with h1 | h1 | h1
  ·rcases h with h | h <;> rcases h' with h' | h'
   ·have : (q - q') * b ≤ (-1) * b := Int.mul_le_mul_of_nonneg_right (by omega) (by omega)
    omega
   ·omega
   ·omega
   ·have : (-1) * b ≤ (q - q') * b := Int.mul_le_mul_of_nonpos_right (by omega) (by omega)
    omega
  ·exact h1
  ·rcases h with h | h <;> rcases h' with h' | h'
   ·have : 1 * b ≤ (q - q') * b := Int.mul_le_mul_of_nonneg_right (by omega) (by omega)
    omega
   ·omega
   ·omega
   ·have : (q - q') * b ≤ 1 * b := Int.mul_le_mul_of_nonpos_right (by omega) (by omega)
    omega
 have : q = q' := by omega
 subst this
 exact ⟨rfl, by omega⟩
def Boxes (L : List (Nat × Bool × ByteArray)) (W : World) : Prop := ∀ x ∈ L, W.heap[x.1]? = some (.cells #[.bool x.2.1, .string x.2.2] 36 (0, 0))
theorem Boxes.nil (W : World) : Boxes [] W := fun x h => by cases h
theorem Boxes.below {L : List (Nat × Bool × ByteArray)} {W W1 W' : World} (h : Boxes L W) (hb : Below W1.heap.size W1 W') (e : W1.heap = W.heap := by rfl) : Boxes L W' := fun x hx => by
 have h1 := h x hx
 rw [hb.block _ (by rw [e]; exact (Array.getElem?_eq_some_iff.1 h1).1), e]
 exact h1
theorem Boxes.push {L : List (Nat × Bool × ByteArray)} {W : World} (h : Boxes L W) (n : Bool) (s : ByteArray) : Boxes ((W.heap.size, n, s) :: L) (W.alloc (.cells #[.bool n, .string s] 36)) := fun x hx => by
 rcases List.mem_cons.1 hx with rfl | hx
 ·exact heap_alloc_new W _
 ·have h1 := h x hx
  rw [Below.heap_alloc W _ _ (Array.getElem?_eq_some_iff.1 h1).1]
  exact h1
theorem bstep {w W W1 W' : World} (h : Below w.heap.size w W) (hb : Below W1.heap.size W1 W') (e1 : W1.heap = W.heap := by rfl) (e2 : W1.os = W.os := by rfl) (e3 : W1.tape = W.tape := by rfl) (e4 : W1.output = W.output := by rfl) : Below w.heap.size w W' := by
 have hb' : Below W.heap.size W W' := ⟨hb.os.trans e2, hb.tape.trans e3, hb.output.trans e4, by rw [← e1]; exact hb.size, fun k hk => by rw [← e1]; exact hb.block k (by rw [e1]; exact hk)⟩
 exact h.trans (hb'.mono h.size)
def gr (L : List (Bool × ByteArray)) : Bool := L.any fun x => decide (60 < x.2.size)
structure Bx (W : World) (b : Nat) (n : Bool) (s : ByteArray) : Prop where
 c0 : W.cell? ⟨b, 0, none⟩ = some (.bool n)
 c1 : W.cell? ⟨b, 1, none⟩ = some (.string s)
 z0 : W.frozen? ⟨b, 0, none⟩ = false
 z1 : W.frozen? ⟨b, 1, none⟩ = false
 lt : b < W.heap.size
theorem Bx.below {W W1 W' : World} {b : Nat} {n : Bool} {s : ByteArray} (h : Bx W b n s) (hb : Below W1.heap.size W1 W') (e : W1.heap = W.heap := by rfl) : Bx W' b n s := by
 have hlt : b < W1.heap.size := by rw [e]; exact h.lt
 have hc : ∀ o, W1.cell? ⟨b, o, none⟩ = W.cell? ⟨b, o, none⟩ := fun o => World.cell?_of_block (by rw [e])
 have hf : ∀ o, W1.frozen? ⟨b, o, none⟩ = W.frozen? ⟨b, o, none⟩ := fun o => by unfold World.frozen?; rw [e]
 exact ⟨(hb.cell (p := ⟨b, 0, none⟩) hlt).trans ((hc 0).trans h.c0), (hb.cell (p := ⟨b, 1, none⟩) hlt).trans ((hc 1).trans h.c1),
  (hb.frozen (p := ⟨b, 0, none⟩) hlt).trans ((hf 0).trans h.z0), (hb.frozen (p := ⟨b, 1, none⟩) hlt).trans ((hf 1).trans h.z1), Nat.lt_of_lt_of_le hlt hb.size⟩
theorem Bx.alloc {W : World} {b : Nat} {n : Bool} {s : ByteArray} (h : Bx W b n s) (o : Obj) : Bx (W.alloc o) b n s := by
 have hb := (Below.refl W.heap.size W).alloc (Nat.le_refl _) o
 exact h.below hb
theorem Bx.new (W : World) (b : Nat) (n : Bool) (s : ByteArray) (hb : b = W.heap.size) : Bx (W.alloc (.cells #[.bool n, .string s] 36)) b n s := by
 subst hb
 obtain ⟨a, b, c, d, e⟩ := blk_facts (heap_alloc_new W (.cells #[.bool n, .string s] 36))
 exact ⟨a, b, c, d, e⟩
theorem Bx.set {W : World} {b : Nat} {n n' : Bool} {s s' : ByteArray} (h : Bx W b n s) : Bx ((W.setCell ⟨b, 0, none⟩ (.bool n')).setCell ⟨b, 1, none⟩ (.string s')) b n' s' := by
 have e1 : (W.setCell ⟨b, 0, none⟩ (.bool n')).cell? ⟨b, 1, none⟩ = some (.string s) := (World.cell?_setCell_other _ _ _ _ (fun e => by have := congrArg Addr.off e; simp at this)).trans h.c1
 refine ⟨?_, World.cell?_setCell_same _ _ _ e1, ?_, ?_, by simpa using h.lt⟩
 ·exact (World.cell?_setCell_other _ _ _ _ (fun e => by have := congrArg Addr.off e; simp at this)).trans (World.cell?_setCell_same _ _ _ h.c0)
 ·rw [World.frozen?_setCell, World.frozen?_setCell]; exact h.z0
 ·rw [World.frozen?_setCell, World.frozen?_setCell]; exact h.z1
theorem Bx.other {W : World} {b c : Nat} {n : Bool} {s : ByteArray} {u v : Value} (h : Bx W b n s) (hne : b ≠ c) : Bx ((W.setCell ⟨c, 0, none⟩ u).setCell ⟨c, 1, none⟩ v) b n s := by
 have e : ∀ (X : World) (o p : Nat) (y : Value), (X.setCell ⟨c, p, none⟩ y).cell? ⟨b, o, none⟩ = X.cell? ⟨b, o, none⟩ := fun X o p y => World.cell?_setCell_other _ _ _ _ (fun e => hne (congrArg Addr.block e).symm)
 refine ⟨(e _ _ _ _).trans ((e _ _ _ _).trans h.c0), (e _ _ _ _).trans ((e _ _ _ _).trans h.c1), ?_, ?_, by simpa using h.lt⟩
 ·rw [World.frozen?_setCell, World.frozen?_setCell]; exact h.z0
 ·rw [World.frozen?_setCell, World.frozen?_setCell]; exact h.z1
def Bxs (L : List (Nat × Bool × ByteArray)) (W : World) : Prop := ∀ x ∈ L, Bx W x.1 x.2.1 x.2.2
theorem Bxs.nil (W : World) : Bxs [] W := fun x h => by cases h
theorem Bxs.cons {L : List (Nat × Bool × ByteArray)} {W : World} {b : Nat} {n : Bool} {s : ByteArray} (h : Bxs L W) (hb : Bx W b n s) : Bxs ((b, n, s) :: L) W := fun x hx => by
 rcases List.mem_cons.1 hx with rfl | hx
 ·exact hb
 ·exact h x hx
theorem Bxs.below {L : List (Nat × Bool × ByteArray)} {W W1 W' : World} (h : Bxs L W) (hb : Below W1.heap.size W1 W') (e : W1.heap = W.heap := by rfl) : Bxs L W' := fun x hx => (h x hx).below hb e
structure Cl (W : World) where
 x : World
 h : Below W.heap.size W x
theorem wp_region_cls {id : Nat} {Q : Exit → Act → World → Prop} {a : Act} {W : World} {l : List Oper} (hB : Region.lexB .any l.toArray = true)
  (h : wpQuiet Tryz.prog l.toArray (fun w' => ∃ u : Cl W, w' = u.x) (fun a' => ∀ w', (∃ u : Cl W, w' = u.x) → Q .normal a' w') l a) : (Code.region id l.toArray true).wp Tryz.prog Q a W :=
 wp_region_quiet (C := fun w' => ∃ u : Cl W, w' = u.x) (by kernel_rfl) hB ⟨⟨{ W with drawn := W.drawn + 1 }, ⟨rfl, rfl, rfl, Nat.le_refl _, fun _ _ => rfl⟩⟩, rfl⟩ (by simpa using h)
theorem quiet_cls {W : World} {f : Nat} {args : Array Value} {v : Value} (h : ∀ X, Calls Tryz.prog f args X fun e w' => e = .returned v ∧ Below X.heap.size X w') (u : Cl W) :
  Calls Tryz.prog f args u.x fun e w'' => e = .returned v ∧ ∃ u' : Cl W, w'' = u'.x :=
 (h u.x).mono fun _ w' ⟨he, hb⟩ => ⟨he, ⟨⟨w', bstep u.h hb⟩, rfl⟩⟩
theorem cls_some (W : World) : Nonempty (Cl W) := ⟨⟨W, Below.refl _ _⟩⟩
theorem cells_get {w : World} {B t i : Nat} {vs : Array Value} (h : w.heap[B]? = some (.cells vs t (0, 0))) : w.cell? ⟨B, i, none⟩ = vs[i]? := by
 simp only [World.cell?, h]; rfl
def Canon (na : Bool) (sa : ByteArray) : Prop := sg na (bv sa.data.toList) = na ∧ mg (bv sa.data.toList) = sa
theorem Check_any (na : Bool) (sa : ByteArray) (w : World) (ha : sa.size ≤ 30000000) :
  Calls Tryz.prog 41 #[.agg #[.bool na, .string sa]] w fun e w' => (∃ r : Int, e = .returned (.int .i64 r) ∧ (Canon na sa → r = 0) ∧ (¬ Canon na sa → r = 1)) ∧ Below w.heap.size w w' := by
 have L1 := nlen_bv (s := sa)
 go_enter Tryz.func41, Tryz.ntmps41
 go_wp2
 obtain ⟨W, hW⟩ : ∃ W, w.alloc (.cells #[.bool na, .string sa] 36) = W := ⟨_, rfl⟩
 have HO := Lib.hid (Own.one w (.cells #[.bool na, .string sa] 36))
 rw [hW] at HO ⊢
 clear hW
 obtain ⟨a0, a1, a2, a3, a4⟩ := HO.out.blk 0 w.heap.size rfl rfl
 go_region_held3 (fun w' => w'.cell? ⟨w.heap.size, 0, none⟩ = some (.bool na) ∧ w'.cell? ⟨w.heap.size, 1, none⟩ = some (.string sa)) (go_keep) (first
  | (go_at_call 73; refine (digits_any na sa _ (by omega)).mono ?_; rintro e w1 ⟨A, c, rfl, hn, hb⟩; have HO1 := Lib.hid (HO.out.next hb); obtain ⟨k0, k1, k2, k3, k4⟩ := HO1.out.blk 0 w.heap.size rfl rfl; have Hn := Lib.hid hn; clear hb hn)
  | (go_at_call 40; refine (number_nt _ A c _ _ (by exact Hn.out.same) (by have := nlen_bv (s := sa); omega)).mono ?_; rintro e w2 ⟨rfl, hb2⟩; have HO2 := Lib.hid (HO1.out.next hb2); obtain ⟨m0, m1, m2, m3, m4⟩ := HO2.out.blk 0 w.heap.size rfl rfl; clear hb2))
 by_cases hc : Canon na sa
 ·rw [eqI_iff.mpr hc]
  go_wp2
  refine bodyPost_ret (v := .int .i64 0) (by simp [results, Tryz.results41, go_sem]) rfl ?_
  exact ⟨⟨0, rfl, fun _ => rfl, fun h => absurd hc h⟩, HO2.out.below⟩
 ·have t : eqI (sg na (bv sa.data.toList)) (mg (bv sa.data.toList)) na sa = false := by
   rw [Bool.eq_false_iff]; exact fun h => hc (eqI_iff.mp h)
  rw [t]
  go_wp2
  refine bodyPost_ret (v := .int .i64 1) (by simp [results, Tryz.results41, go_sem]) rfl ?_
  exact ⟨⟨1, rfl, fun h => absurd h hc, fun _ => rfl⟩, HO2.out.below⟩
end Go.Proofs.Gv
