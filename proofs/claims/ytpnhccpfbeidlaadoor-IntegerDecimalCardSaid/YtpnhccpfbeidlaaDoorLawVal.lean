/- The contracts of integers, said of values. -/
import Derived.Test.YtpnhccpfbeidlaaDoorLawKit
import Derived.Test.YtpnhccpfbeidlaaDoorIntF
namespace Go.Proofs.Gv
open Go Go.RowKit

/-- Sign and bytes stand for the integer z. -/
structure Rp (n : Bool) (s : ByteArray) (z : Int) : Prop where
  val : iv n s = z
  sz : s.size ≤ 1000000
theorem p256 (N : Nat) : (256 : Nat) ^ N = 2 ^ (8 * N) := by rw [Nat.pow_mul]
theorem szB {x : Nat} (N : Nat) (h : x < 2 ^ (8 * N)) : (mg x).size ≤ N := size_mg (by rw [p256]; exact h)
theorem Rp.V {z : Int} (N : Nat) (h : z.natAbs < 2 ^ N) (hN : N ≤ 7900000) : Rp (sgn z) (mg z.natAbs) z :=
  ⟨iv_V z, Nat.le_trans (szB (N / 8 + 1) (Nat.lt_of_lt_of_le h (Nat.pow_le_pow_right (by decide) (by omega)))) (by omega)⟩
theorem bv_emp : bv (⟨#[]⟩ : ByteArray).data.toList = 0 := by rw [← mg_zero, bv_mg]
theorem Rp.zero : Rp false ⟨#[]⟩ 0 := ⟨by unfold iv; rw [bv_emp]; rfl, by decide⟩
theorem Rp.abs {n : Bool} {s : ByteArray} {z : Int} (h : Rp n s z) : z.natAbs = bv s.data.toList := by rw [← h.val, iv_abs]
theorem Rp.lt {n : Bool} {s : ByteArray} {z : Int} (h : Rp n s z) {k : Nat} (hk : s.size ≤ k) : z.natAbs < 2 ^ (8 * k) := by
  rw [← h.val, ← p256]
  exact Nat.lt_of_lt_of_le (iv_lt n s) (Nat.pow_le_pow_right (by decide) hk)
theorem Rp.neg {n : Bool} {s : ByteArray} {z : Int} (h : Rp n s z) (hz : z < 0) : n = true ∧ 0 < bv s.data.toList := by
  have hv := h.val
  unfold iv at hv
  cases n
  · simp at hv; omega
  · simp at hv; exact ⟨rfl, by omega⟩
theorem Rp.pos {n : Bool} {s : ByteArray} {z : Int} (h : Rp n s z) (hz : 0 ≤ z) : n = true → bv s.data.toList = 0 := by
  have hv := h.val
  unfold iv at hv
  rintro rfl
  simp at hv; omega

section
variable {na nb : Bool} {sa sb : ByteArray} {a b : Int}
theorem cAdd (ha : Rp na sa a) (hb : Rp nb sb b) (W : World) :
    Calls Tryd.prog 52 #[.agg #[.bool na, .string sa], .agg #[.bool nb, .string sb]] W fun e w' => e = .returned (.agg #[.bool (sgn (a + b)), .string (mg (a + b).natAbs)]) ∧ Below W.heap.size W w' := by
  have := Add_any na nb sa sb W (Nat.le_trans ha.sz (by decide)) (Nat.le_trans hb.sz (by decide))
  rwa [ha.val, hb.val] at this
theorem cSub (ha : Rp na sa a) (hb : Rp nb sb b) (W : World) :
    Calls Tryd.prog 33 #[.agg #[.bool na, .string sa], .agg #[.bool nb, .string sb]] W fun e w' => e = .returned (.agg #[.bool (sgn (a - b)), .string (mg (a - b).natAbs)]) ∧ Below W.heap.size W w' := by
  have := Sub_any na nb sa sb W (Nat.le_trans ha.sz (by decide)) (Nat.le_trans hb.sz (by decide))
  rwa [ha.val, hb.val] at this
theorem cMul (ha : Rp na sa a) (hb : Rp nb sb b) (W : World) :
    Calls Tryd.prog 14 #[.agg #[.bool na, .string sa], .agg #[.bool nb, .string sb]] W fun e w' => e = .returned (.agg #[.bool (sgn (a * b)), .string (mg (a * b).natAbs)]) ∧ Below W.heap.size W w' := by
  have := Mul_any na nb sa sb W (Nat.le_trans ha.sz (by decide)) (Nat.le_trans hb.sz (by decide))
  rwa [ha.val, hb.val] at this
theorem cNeg (ha : Rp na sa a) (W : World) :
    Calls Tryd.prog 53 #[.agg #[.bool na, .string sa]] W fun e w' => e = .returned (.agg #[.bool (sgn (-a)), .string (mg (-a).natAbs)]) ∧ Below W.heap.size W w' := by
  have := Neg_any na sa W (Nat.le_trans ha.sz (by decide))
  rwa [ha.val] at this
theorem cCmp (ha : Rp na sa a) (hb : Rp nb sb b) (W : World) :
    Calls Tryd.prog 11 #[.agg #[.bool na, .string sa], .agg #[.bool nb, .string sb]] W fun e w' => e = .returned (.int .i64 (cmpI a b)) ∧ Below W.heap.size W w' := by
  have := Compare_any na nb sa sb W (Nat.le_trans ha.sz (by decide)) (Nat.le_trans hb.sz (by decide))
  rwa [ha.val, hb.val] at this
theorem cBits (ha : Rp na sa a) (W : World) :
    Calls Tryd.prog 20 #[.agg #[.bool na, .string sa]] W fun e w' => e = .returned (.int .i64 (bl a.natAbs : Nat)) ∧ Below W.heap.size W w' := by
  have := Bits_any na sa W (Nat.le_trans ha.sz (by decide))
  rwa [← ha.abs] at this
theorem cDiv {q r : Int} (ha : Rp na sa a) (hb : Rp nb sb b) (hd : DivSpec a b q r) (h0 : b ≠ 0) (W : World) :
    Calls Tryd.prog 17 #[.agg #[.bool na, .string sa], .agg #[.bool nb, .string sb]] W fun e w' => e = .returned (.tuple #[.agg #[.bool (sgn q), .string (mg q.natAbs)], .agg #[.bool (sgn r), .string (mg r.natAbs)], .int .i64 0]) ∧ Below W.heap.size W w' := by
  have := Div_any na nb sa sb W (Nat.le_trans ha.sz (by decide)) (Nat.le_trans hb.sz (by decide)) (by rw [← hb.abs]; omega)
  rw [ha.val, hb.val] at this
  refine this.mono ?_
  rintro e w' ⟨q', r', rfl, hd', hbl⟩
  obtain ⟨rfl, rfl⟩ := div_uniq hd hd'
  exact ⟨rfl, hbl⟩
theorem cDiv0 (ha : Rp na sa a) (hb : Rp nb sb 0) (W : World) :
    Calls Tryd.prog 17 #[.agg #[.bool na, .string sa], .agg #[.bool nb, .string sb]] W fun e w' => e = .returned (.tuple #[.agg #[.bool false, .string ⟨#[]⟩], .agg #[.bool false, .string ⟨#[]⟩], .int .i64 9]) ∧ Below W.heap.size W w' :=
  Div_zero na nb sa sb W (Nat.le_trans ha.sz (by decide)) (Nat.le_trans hb.sz (by decide)) (by rw [← hb.abs]; rfl)
theorem cPower (n : Int) (ha : Rp na sa a) (h0 : 0 ≤ n) (h1 : n ≤ 4096) (h2 : n.toNat * bl a.natAbs ≤ 65536) (W : World) :
    Calls Tryd.prog 19 #[.agg #[.bool na, .string sa], .int .i64 n] W fun e w' => e = .returned (.tuple #[.agg #[.bool (sgn (a ^ n.toNat)), .string (mg (a ^ n.toNat).natAbs)], .int .i64 0]) ∧ Below W.heap.size W w' := by
  have := Power_any na sa n W (Nat.le_trans ha.sz (by decide)) (by omega) (by omega)
  have hE : powE a n = 0 := by unfold powE; rw [if_neg (by omega), if_neg (by omega)]
  have hV : powV a n = a ^ n.toNat := by unfold powV; rw [if_pos hE]
  rw [ha.val, hE, hV] at this
  exact this
theorem cRoot (n : Int) {r : Nat} (ha : Rp na sa a) (h0 : 1 ≤ n) (h1 : n ≤ 4096) (hz : 0 ≤ a) (hr1 : r ^ n.toNat ≤ a.natAbs) (hr2 : a.natAbs < (r + 1) ^ n.toNat) (W : World) :
    Calls Tryd.prog 18 #[.agg #[.bool na, .string sa], .int .i64 n] W fun e w' => e = .returned (.tuple #[.agg #[.bool false, .string (mg r)], .int .i64 0]) ∧ Below W.heap.size W w' := by
  have := Root_ok na sa n.toNat W ha.sz (ha.pos hz) (by omega) (by omega)
  rw [← ha.abs, nrt_eq hr1 hr2, Int.toNat_of_nonneg (by omega)] at this
  exact this
theorem cRootB (n : Int) (ha : Rp na sa a) (h : a < 0 ∨ n < 1 ∨ 4096 < n) (W : World) :
    Calls Tryd.prog 18 #[.agg #[.bool na, .string sa], .int .i64 n] W fun e w' => e = .returned (.tuple #[.agg #[.bool false, .string ⟨#[]⟩], .int .i64 2]) ∧ Below W.heap.size W w' := by
  have := Root_bad na sa n W ha.sz (h.imp ha.neg id)
  unfold RetIE at this
  rw [show (0 : Int).natAbs = 0 from rfl, mg_zero] at this
  exact this
theorem canon_V (z : Int) : Canon (sgn z) (mg z.natAbs) := by
  unfold Canon
  rw [bv_mg, sg_eq]
  refine ⟨?_, rfl⟩
  congr 1
  unfold sgn
  by_cases h : z < 0
  · simp [h]; omega
  · simp [h]; omega
theorem cCheck (z : Int) (hz : (mg z.natAbs).size ≤ 1000000) (W : World) :
    Calls Tryd.prog 12 #[.agg #[.bool (sgn z), .string (mg z.natAbs)]] W fun e w' => e = .returned (.int .i64 0) ∧ Below W.heap.size W w' := by
  refine (Check_any (sgn z) (mg z.natAbs) W (Nat.le_trans hz (by decide))).mono ?_
  rintro e w' ⟨⟨r, rfl, h0, _⟩, hb⟩
  rw [h0 (canon_V z)]
  exact ⟨rfl, hb⟩
end
theorem bl_lt {x N : Nat} (h : x < 2 ^ N) : bl x ≤ N := bl_le_iff.2 h
theorem pow_bits {x N : Nat} (k : Nat) (h : x < 2 ^ N) (hk : 0 < k) : x ^ k < 2 ^ (N * k) := by
  rw [Nat.pow_mul]; exact Nat.pow_lt_pow_left h (by omega)
theorem mul_bits {x y N M : Nat} (h : x < 2 ^ N) (h' : y < 2 ^ M) : x * y < 2 ^ (N + M) := by
  rw [Nat.pow_add]; exact Nat.mul_lt_mul'' h h'
theorem add_bits {x y N : Nat} (h : x < 2 ^ N) (h' : y < 2 ^ N) : x + y < 2 ^ (N + 1) := by rw [Nat.pow_succ]; omega
theorem iadd_bits {x y : Int} {N : Nat} (h : x.natAbs < 2 ^ N) (h' : y.natAbs < 2 ^ N) : (x + y).natAbs < 2 ^ (N + 1) := by have := add_bits h h'; omega
theorem isub_bits {x y : Int} {N : Nat} (h : x.natAbs < 2 ^ N) (h' : y.natAbs < 2 ^ N) : (x - y).natAbs < 2 ^ (N + 1) := by have := add_bits h h'; omega
theorem imul_bits {x y : Int} {N M : Nat} (h : x.natAbs < 2 ^ N) (h' : y.natAbs < 2 ^ M) : (x * y).natAbs < 2 ^ (N + M) := by rw [Int.natAbs_mul]; exact mul_bits h h'
theorem ipow_bits {x : Int} {N : Nat} (k : Nat) (h : x.natAbs < 2 ^ N) (hk : 0 < k) : (x ^ k).natAbs < 2 ^ (N * k) := by rw [Int.natAbs_pow]; exact pow_bits k h hk
theorem bits_up {x N : Nat} (M : Nat) (h : x < 2 ^ N) (hm : N ≤ M) : x < 2 ^ M := Nat.lt_of_lt_of_le h (Nat.pow_le_pow_right (by decide) hm)
end Go.Proofs.Gv
