import Derived.Test.YtfhncfphphieiaaGreatShortP
import Derived.Test.YtfhncfphphieiaaGreatShelf
import Derived.Shelf.Small.Bits
set_option maxHeartbeats 1600000
set_option maxRecDepth 100000
set_option linter.unusedSimpArgs false
set_option linter.unusedVariables false
namespace Go.Proofs.Gv
open Go Go.RowKit
def hc (x p k : Nat) : Nat := x % B32 ^ k * p / B32 ^ k
theorem hc_zero (x p : Nat) : hc x p 0 = 0 := by simp [hc, Nat.mod_one]
theorem hc_lt (x k : Nat) {p : Nat} (hp : 0 < p) : hc x p k < p := by
 unfold hc
 rw [Nat.div_lt_iff_lt_mul (pow_pos k), Nat.mul_comm]
 exact Nat.mul_lt_mul_of_pos_left (Nat.mod_lt _ (pow_pos k)) hp
theorem hc_sum (x p k : Nat) : D x k * p + hc x p k = x % B32 ^ (k + 1) * p / B32 ^ k := by
 rw [mod_succ, Nat.add_mul, Nat.mul_assoc, Nat.add_mul_div_left _ _ (pow_pos k)]
 unfold hc; omega
theorem hc_next (x p k : Nat) : (D x k * p + hc x p k) / B32 = hc x p (k + 1) := by
 rw [hc_sum, Nat.div_div_eq_div_mul, ← Nat.pow_succ]; rfl
theorem hc_digit (x p k : Nat) : (D x k * p + hc x p k) % B32 = D (x * p) k := by
 rw [hc_sum]
 have e : ∀ z, z / B32 ^ k % B32 = z % B32 ^ (k + 1) / B32 ^ k := fun z => by rw [Nat.pow_succ, Nat.mod_mul_right_div_self]
 unfold D
 rw [e, e, Nat.mod_mul_mod]
theorem hc_last {x p n : Nat} (hx : x < B32 ^ n) (hp : p ≤ B32) (h0 : 0 < p) : hc x p n = D (x * p) n := by
 have h := hc_lt x n h0
 unfold hc at h ⊢
 unfold D
 rw [Nat.mod_eq_of_lt hx] at h ⊢
 rw [Nat.mod_eq_of_lt (by omega)]
theorem or_shift {a c n : Nat} (ha : a < 4294967296) (hn : n < 32) (hc : c < 2 ^ n) : bits .or .u64 (((a * 2 ^ n : Nat) : Int)) (c : Int) = ((a * 2 ^ n + c : Nat) : Int) := by
 have h2 : 2 ^ n ≤ 2 ^ 31 := Nat.pow_le_pow_right (by decide) (by omega)
 have h3 : a * 2 ^ n ≤ 4294967296 * 2 ^ 31 := Nat.mul_le_mul (by omega) h2
 rw [u64_or_nat _ _ (by omega) (by omega), nat_join n _ _ (Nat.mul_mod_left _ _) hc]
theorem shl_or {a c n : Nat} (ha : a < 4294967296) (hn : n < 32) (hc : c < 2 ^ n) : bits .or .u64 (IntKind.u64.wrap ((a : Int) * 2 ^ n)) (c : Int) = ((a * 2 ^ n + c : Nat) : Int) := by
 have h2 : 2 ^ n ≤ 2 ^ 31 := Nat.pow_le_pow_right (by decide) (by omega)
 have h3 : a * 2 ^ n ≤ 4294967295 * 2 ^ 31 := Nat.mul_le_mul (by omega) h2
 have e : (a : Int) * 2 ^ n = ((a * 2 ^ n : Nat) : Int) := by simp
 rw [← or_shift ha hn hc, e]
 congr 1
 generalize a * 2 ^ n = p at *
 exact IntWalk.u64_in _ (by omega)
theorem hc_nextI {x k n : Nat} (hn : n < 32) : bits .or .u64 (IntKind.u64.wrap ((D x k : Int) * 2 ^ n)) (hc x (2 ^ n) k : Nat) / 4294967296 = (hc x (2 ^ n) (k + 1) : Nat) := by
 rw [shl_or (D_lt' x k) hn (hc_lt x k (Nat.pow_pos (by decide))), ← hc_next]; rfl
theorem hc_digitI {x k n : Nat} (hn : n < 32) : bits .or .u64 (IntKind.u64.wrap ((D x k : Int) * 2 ^ n)) (hc x (2 ^ n) k : Nat) % 4294967296 = (D (x * 2 ^ n) k : Nat) := by
 rw [shl_or (D_lt' x k) hn (hc_lt x k (Nat.pow_pos (by decide))), ← hc_digit]; rfl
theorem shift_any (A : Option Addr) (c x n : Nat) (w : World) (hx : Nt w w.heap.size A c x) (hn : nlen x ≤ 10000000) (hn' : n < 32) :
  Calls Tryz.prog 128 #[.slice A (nlen x) c, .int .i64 (n : Nat)] w fun e w' =>
   e = .returned (.slice (some ⟨w.heap.size, 0, none⟩) (nlen x + 1) (nlen x + 1)) ∧ w'.rowIs w.heap.size 74 (nlen x + 1) (u32s (D (x * 2 ^ n))) ∧ Below w.heap.size w w' := by
 obtain ⟨lx, bx, rx⟩ := hx
 have hmk := mk_nat ((nlen x : Int) + 1) (nlen x + 1) (by omega) (by omega)
 go_enter Tryz.func128, Tryz.ntmps128
 go_wp2
 clear hmk
 obtain ⟨W0, hW0⟩ : ∃ W0, w.alloc (.cells (madeCells #[.int .u32 0] (nlen x + 1)) 74) = W0 := ⟨_, rfl⟩
 have hrow0 : W0.rowIs w.heap.size 74 (nlen x + 1) (u32s fun _ => 0) := by rw [← hW0]; exact made_row w _
 have hb0 : Below w.heap.size w W0 := by rw [← hW0]; exact (Below.refl _ _).alloc (Nat.le_refl _) _
 rw [hW0]
 clear hW0
 go_loopw [6, 16] (fun cr i wr => ∃ k : Nat, k ≤ nlen x ∧ i = .int .i64 k ∧ cr = .int .u64 (hc x (2 ^ n) k : Nat) ∧ wr.rowIs w.heap.size 74 (nlen x + 1) (u32s fun j => if j < k then D (x * 2 ^ n) j else 0) ∧ Below w.heap.size w wr)
  (fun _ i _ => nlen x - (intOf i).toNat)
 case atStart => exact ⟨0, Nat.zero_le _, rfl, by rw [hc_zero]; rfl, hrow0, hb0⟩
 case round =>
  obtain ⟨k, hk, rfl, rfl, hrow, hb⟩ := hrel
  by_cases hlt : k < nlen x
  ·obtain ⟨g, rfl, hg, hcell⟩ := rx (by omega)
   have hc1 : wr.cell? ⟨g, k, none⟩ = some (.int .u32 (D x k : Nat)) := (hb.cell (p := ⟨g, k, none⟩) hg).trans (hcell k hlt)
   clear hcell rx
   have hd1 := D_lt' x k
   have hoc := hrow.cell (i := k) (by omega)
   have hof := hrow.frozen k
   go_wp2
   go_roundw
   case rel => exact ⟨k + 1, by omega, by go_num, by rw [hc_nextI hn'], row_step hrow (hc_digitI hn'), hb.setCell (p := ⟨w.heap.size, k, none⟩) (Nat.le_refl _) _⟩
   case measure => simp [intOf] <;> omega
  ·obtain rfl : k = nlen x := by omega
   have h2 : 2 ^ n ≤ 2 ^ 31 := Nat.pow_le_pow_right (by decide) (by omega)
   have hoc := hrow.cell (i := nlen x) (by omega)
   have hof := hrow.frozen (nlen x)
   have hcr : hc x (2 ^ n) (nlen x) < 4294967296 := by have := hc_lt x (nlen x) (p := 2 ^ n) (Nat.pow_pos (by decide)); omega
   have hr2 := row_step (k := nlen x) (F := D (x * 2 ^ n)) (V := (hc x (2 ^ n) (nlen x) : Nat)) hrow (by rw [hc_last (lt_pow_nlen x) (by unfold B32; omega) (Nat.pow_pos (by decide))])
   have Hr := Lib.hid (row_all hr2)
   clear hr2 hrow h2
   go_wp2
   go_ret
   exact ⟨rfl, Hr.out, hb.setCell (p := ⟨w.heap.size, nlen x, none⟩) (Nat.le_refl _) _⟩
theorem bitLen_zero : Lib.bitLen 0 = 0 := by decide
theorem bitLen_bounds (n : Nat) : ∀ x, x < 2 ^ n → n ≤ 64 → 0 < x → 0 < Lib.bitLen x ∧ 2 ^ (Lib.bitLen x - 1) ≤ x ∧ x < 2 ^ Lib.bitLen x := by
 induction n with
 | zero => intro x h _ h0; have : x < 1 := h; omega
 | succ n ih =>
   intro x h hn h0
   have h64 : x < 2 ^ 64 := Nat.lt_of_lt_of_le h (Nat.pow_le_pow_right (by decide) hn)
   have e := Lib.bitLen_half x (by omega) h64
   rw [Nat.pow_succ] at h
   by_cases h1 : x / 2 = 0
   ·have : x = 1 := by omega
    subst this
    rw [h1, bitLen_zero] at e
    rw [e]; decide
   ·obtain ⟨a, b, c⟩ := ih (x / 2) (by omega) (by omega) (by omega)
    rw [e]
    refine ⟨by omega, ?_, ?_⟩
    ·rw [show 1 + Lib.bitLen (x / 2) - 1 = Lib.bitLen (x / 2) - 1 + 1 by omega, Nat.pow_succ]; omega
    ·rw [Nat.add_comm, Nat.pow_succ]; omega
def lz (d : Nat) : Nat := 32 - Lib.bitLen d
theorem lz_spec {d : Nat} (h0 : 0 < d) (h : d < 4294967296) : lz d < 32 ∧ 2147483648 ≤ d * 2 ^ lz d ∧ (d + 1) * 2 ^ lz d ≤ 4294967296 := by
 obtain ⟨a, b, c⟩ := bitLen_bounds 32 d h (by omega) h0
 have hle : Lib.bitLen d ≤ 32 := Lib.bitLen_le d 32 (by omega) h
 unfold lz
 generalize Lib.bitLen d = n at *
 refine ⟨by omega, ?_, ?_⟩
 ·have : 2 ^ (n - 1) * 2 ^ (32 - n) ≤ d * 2 ^ (32 - n) := Nat.mul_le_mul_right _ b
  rw [← Nat.pow_add, show n - 1 + (32 - n) = 31 by omega] at this
  exact this
 ·have : (d + 1) * 2 ^ (32 - n) ≤ 2 ^ n * 2 ^ (32 - n) := Nat.mul_le_mul_right _ c
  rw [← Nat.pow_add, show n + (32 - n) = 32 by omega] at this
  exact this
theorem leading_any (d : Nat) (w : World) (h : d < 4294967296) :
  Calls Tryz.prog 127 #[.int .u32 (d : Nat)] w fun e w' => e = .returned (.int .i64 (lz d : Nat)) ∧ w = w' := by
 refine (Tryz.bits_LeadingZeros32 (d : Int) w (by omega) (by omega)).mono ?_
 rintro e w' ⟨rfl, rfl⟩
 have hle : Lib.bitLen d ≤ 32 := Lib.bitLen_le d 32 (by omega) h
 refine ⟨?_, rfl⟩
 rw [Int.toNat_natCast]
 unfold lz
 rw [show ((32 - Lib.bitLen d : Nat) : Int) = 32 - (Lib.bitLen d : Int) by omega]
def RetDiv (w : World) (q r : Nat) (e : Ending) (w' : World) : Prop :=
 ∃ A c A' c', e = .returned (.tuple #[.slice A (nlen q) c, .slice A' (nlen r) c']) ∧ Nt w' w'.heap.size A c q ∧ Nt w' w'.heap.size A' c' r ∧ Below w.heap.size w w'
theorem Below.dr {B : Nat} {w w' : World} (h : Dr w w') : Below B w w' := by
 obtain ⟨n, rfl⟩ := h
 exact ⟨rfl, rfl, rfl, Nat.le_refl _, fun _ _ => rfl⟩
theorem Nt.later {w0 w1 w2 : World} {A : Option Addr} {c x : Nat} (h : Nt w0 w0.heap.size A c x) (hb : Below w0.heap.size w0 w1) (hd : Dr w1 w2) : Nt w2 w2.heap.size A c x :=
 h.next (hb.trans (Below.dr hd))
theorem Dr.self (w : World) : Dr w w := Dr.refl w
theorem Dr.step (w : World) : Dr w w.drew := ⟨1, rfl⟩
theorem divide_less (A A' : Option Addr) (c c' x y : Nat) (w : World) (hx : Nt w w.heap.size A c x) (hy : Nt w w.heap.size A' c' y) (hlt : x < y) :
  Calls Tryz.prog 116 #[.slice A (nlen x) c, .slice A' (nlen y) c'] w (RetDiv w 0 x) := by
 have Hx := Lib.hid hx
 have Hy := Lib.hid hy
 have Hl := Lib.hid (cmpN_lt hlt)
 clear hx hy
 go_enter Tryz.func116, Tryz.ntmps116
 go_wp2_with fail
 refine (compare_any A A' c c' x y _ Hx.out Hy.out).mono ?_
 rw [Hl.out]
 rintro e w' ⟨rfl, n, rfl⟩
 go_wp2
 go_ret2
 exact ⟨none, 0, A, c, by rw [nlen_zero]; rfl, Nt.zero _ _ _ _ (by omega), (Hx.out.below (Below.dr (Dr.of w n))), Below.dr (Dr.of w n)⟩
theorem one_digit {y : Nat} (h : nlen y = 1) : D y 0 = y ∧ y < 4294967296 ∧ 0 < y := by
 have h1 := lt_pow_nlen y
 rw [h, Nat.pow_one] at h1
 refine ⟨by simp [D]; exact Nat.mod_eq_of_lt h1, h1, ?_⟩
 rcases Nat.eq_zero_or_pos y with e | e
 ·subst e; rw [nlen_zero] at h; omega
 ·exact e
theorem one_row (w : World) {r : Nat} {V : Int} (hV : V = (r : Nat)) (hr : r < 4294967296) : (w.alloc (.cells #[.int .u32 V] 74)).rowIs w.heap.size 74 1 (u32s (D r)) :=
 World.rowIs_alloc w _ _ _ fun i hi => by
  have : i = 0 := by simpa using hi
  subst this; subst hV
  show some _ = some (Value.int .u32 (D r 0 : Nat))
  rw [show D r 0 = r by simp [D]; exact Nat.mod_eq_of_lt hr]
  rfl
theorem divide_short (A A' : Option Addr) (c c' x y : Nat) (w : World) (hx : Nt w w.heap.size A c x) (hy : Nt w w.heap.size A' c' y) (hn : nlen x ≤ 10000000) (hlt : ¬ x < y) (h1 : nlen y = 1) :
  Calls Tryz.prog 116 #[.slice A (nlen x) c, .slice A' (nlen y) c'] w (RetDiv w (x / y) (x % y)) := by
 obtain ⟨e0, hy1, hy0⟩ := one_digit h1
 have hr := hy.rd
 rw [h1] at hr
 obtain ⟨g, rfl, hg, hcell⟩ := hr (by omega)
 have hc0 := hcell 0 (by omega)
 rw [e0] at hc0
 have hge : 0 ≤ cmpN x y := by unfold cmpN; rw [if_neg hlt]; split <;> omega
 have Hx := Lib.hid hx
 have Hy := Lib.hid hy
 have H1 := Lib.hid h1
 have hneg : ¬ cmpN x y < 0 := by omega
 clear hx hy hr hcell e0 h1
 go_enter Tryz.func116, Tryz.ntmps116
 go_wp2_with fail
 refine (compare_any A _ c c' x y _ Hx.out Hy.out).mono ?_
 rintro e w' ⟨rfl, n, rfl⟩
 rw [H1.out]
 have hx2 := Lib.hid (Hx.out.below (w' := w.drewN n) (Below.dr (Dr.of w n)))
 go_wp2_with fail
 refine (short_any A c x y _ hx2.out hn hy0 hy1).mono ?_
 rintro e w' ⟨A1, c1, rfl, hq, hb⟩
 have Hq := Lib.hid hq
 have Hb := Lib.hid hb
 clear hq hb
 have hr := Nat.mod_lt x hy0
 have Hr := Lib.hid (one_row w' (V := (x : Int) % (y : Int)) (r := x % y) (by omega) (by omega))
 have Hrl := Lib.hid (show x % y < B32 ^ 1 by rw [Nat.pow_one]; exact Nat.lt_of_lt_of_le hr (Nat.le_of_lt hy1))
 go_wp2_with fail
 refine (trim_row Hr.out Hrl.out (by omega)).mono ?_
 rintro e w2 ⟨rfl, rfl⟩
 go_wp2
 go_ret2
 have hb1 : Below w'.heap.size w' (w'.alloc (.cells #[.int .u32 ((x : Int) % (y : Int))] 74)) := (Below.refl _ _).alloc (Nat.le_refl _) _
 exact ⟨_, _, _, _, rfl, Hq.out.next hb1, Nt.of_digits Hr.out Hrl.out (by omega), ((Below.dr (Dr.of w n)).trans Hb.out).trans (hb1.mono Hb.out.size)⟩
theorem nlen_add (x y : Nat) : nlen (x + y) ≤ nlen x + nlen y + 1 := by
 rw [nlen_le_iff]
 have h1 := Nat.lt_of_lt_of_le (lt_pow_nlen x) (Nat.pow_le_pow_right B32_pos (show nlen x ≤ nlen x + nlen y by omega))
 have h2 := Nat.lt_of_lt_of_le (lt_pow_nlen y) (Nat.pow_le_pow_right B32_pos (show nlen y ≤ nlen x + nlen y by omega))
 have h3 : 2 * B32 ^ (nlen x + nlen y) ≤ B32 * B32 ^ (nlen x + nlen y) := Nat.mul_le_mul_right _ (by decide)
 rw [Nat.pow_succ, Nat.mul_comm (B32 ^ _)]
 omega
theorem add_same (ng : Bool) (x y : Nat) : (if ng then -(x : Int) else x) + (if ng then -(y : Int) else y) = if ng then -((x + y : Nat) : Int) else ((x + y : Nat) : Int) := by
 cases ng <;> simp <;> omega
theorem add_less {na nb : Bool} {x y : Nat} (h : (na == nb) = false) (hl : x ≤ y) : (if na then -(x : Int) else x) + (if nb then -(y : Int) else y) = if nb then -((y - x : Nat) : Int) else ((y - x : Nat) : Int) := by
 revert h; cases na <;> cases nb <;> simp <;> omega
theorem add_more {na nb : Bool} {x y : Nat} (h : (na == nb) = false) (hl : y ≤ x) : (if na then -(x : Int) else x) + (if nb then -(y : Int) else y) = if na then -((x - y : Nat) : Int) else ((x - y : Nat) : Int) := by
 revert h; cases na <;> cases nb <;> simp <;> omega
theorem Add_any (na nb : Bool) (sa sb : ByteArray) (w : World) (ha : sa.size ≤ 15000000) (hb : sb.size ≤ 15000000) :
  Calls Tryz.prog 66 #[.agg #[.bool na, .string sa], .agg #[.bool nb, .string sb]] w (RetI w (iv na sa + iv nb sb)) := by
 have L1 := nlen_bv (s := sa)
 have L2 := nlen_bv (s := sb)
 have L3 := nlen_add (bv sa.data.toList) (bv sb.data.toList)
 go_enter Tryz.func66, Tryz.ntmps66
 go_wp2
 obtain ⟨W, hW⟩ : ∃ W, ((w.alloc (.cells #[.bool na, .string sa] 36)).alloc (.cells #[.bool nb, .string sb] 36)).alloc (.cells #[.bool false, .string ⟨#[]⟩] 36) = W := ⟨_, rfl⟩
 have HO := Lib.hid (Own.three w (.cells #[.bool na, .string sa] 36) (.cells #[.bool nb, .string sb] 36) (.cells #[.bool false, .string ⟨#[]⟩] 36))
 rw [hW] at HO ⊢
 clear hW
 obtain ⟨a0, a1, a2, a3, a4⟩ := HO.out.blk 0 w.heap.size rfl rfl
 obtain ⟨b0, b1, b2, b3, b4⟩ := HO.out.blk 1 (w.heap.size + 1) rfl rfl
 have ne1 : ¬ w.heap.size = w.heap.size + 1 + 1 := by omega
 have ne2 : ¬ w.heap.size + 1 + 1 = w.heap.size := by omega
 go_region_held3 (fun w' => w'.cell? ⟨w.heap.size, 0, none⟩ = some (.bool na) ∧ w'.cell? ⟨w.heap.size, 1, none⟩ = some (.string sa) ∧ w'.cell? ⟨w.heap.size + 1, 0, none⟩ = some (.bool nb) ∧ w'.cell? ⟨w.heap.size + 1, 1, none⟩ = some (.string sb)) (go_keep) (first
  | (go_at_call_of 73 (Value.agg #[.bool na, .string sa]); refine (digits_any na sa _ (by omega)).mono ?_; rintro e w1 ⟨A, c, rfl, hn, hb⟩; have HO1 := Lib.hid (HO.out.next hb); obtain ⟨k0, k1, k2, k3, k4⟩ := HO1.out.blk 0 w.heap.size rfl rfl; obtain ⟨l0, l1, l2, l3, l4⟩ := HO1.out.blk 1 (w.heap.size + 1) rfl rfl; have Hn1 := Lib.hid hn; clear hb hn)
  | (go_at_call_of 73 (Value.agg #[.bool nb, .string sb]); refine (digits_any nb sb _ (by omega)).mono ?_; rintro e w2 ⟨A', c', rfl, hn, hb⟩; have HO2 := Lib.hid (HO1.out.next hb); obtain ⟨m0, m1, m2, m3, m4⟩ := HO2.out.blk 0 w.heap.size rfl rfl; obtain ⟨n0, n1, n2, n3, n4⟩ := HO2.out.blk 1 (w.heap.size + 1) rfl rfl; have Hn2 := Lib.hid hn; have Hn3 := Lib.hid (Hn1.out.next hb); clear hb hn))
 obtain ⟨x, hx⟩ : ∃ x, bv sa.data.toList = x := ⟨_, rfl⟩
 obtain ⟨y, hy⟩ : ∃ y, bv sb.data.toList = y := ⟨_, rfl⟩
 rw [hx] at Hn3 L1 L3 ⊢
 rw [hy] at Hn2 L2 L3 ⊢
 have Hx := Lib.hid hx
 have Hy := Lib.hid hy
 clear hx hy
 by_cases hs : (na == nb) = true
 ·have e : na = nb := by simpa using hs
  have He := Lib.hid e
  clear e
  go_wp2
  go_region_held3 (fun w' => w'.cell? ⟨w.heap.size, 0, none⟩ = some (.bool na)) (go_keep) (first
   | (go_at_call 94; refine (add_any A A' c c' x y _ (by exact Hn3.out.same) (by exact Hn2.out.same) (by omega) (by omega)).mono ?_; rintro e w3 ⟨A3, c3, rfl, hn, hb⟩; have HO3 := Lib.hid (HO2.out.next hb); obtain ⟨p0, p1, p2, p3, p4⟩ := HO3.out.blk 0 w.heap.size rfl rfl; have Hn4 := Lib.hid hn; clear hb hn)
   | (go_at_call 40; refine (number_nt _ A3 c3 _ _ (by exact Hn4.out.same) (by omega)).mono ?_; rintro e w4 ⟨rfl, hb2⟩; have HO4 := Lib.hid (HO3.out.next hb2); obtain ⟨r0, r1, r2, r3, r4⟩ := HO4.out.blk 0 w.heap.size rfl rfl; obtain ⟨j0, j1, j2, j3, j4⟩ := HO4.out.blk 2 (w.heap.size + 1 + 1) rfl rfl; clear hb2))
  all_goals go_wp2
  refine bodyPost_ret (v := .agg #[.bool (sg na (x + y)), .string (mg (x + y))]) (by simp [results, Tryz.results66, go_sem, j0, j1]) rfl ?_
  refine RetInt.toI ⟨rfl, ?_⟩ (by unfold iv; rw [Hx.out, Hy.out, ← He.out]; exact add_same na x y)
  exact HO4.out.stored (w.heap.size + 1 + 1) (by omega) _ _
 ·have hs' : (na == nb) = false := by simpa using hs
  clear hs
  by_cases hlt : x < y
  ·have HC := Lib.hid (cmpN_lt hlt)
   have hle : nlen (y - x) ≤ nlen y := nlen_mono (Nat.sub_le _ _)
   go_wp2_with fail
   refine (compare_any A A' c c' x y _ (by exact Hn3.out.same) (by exact Hn2.out.same)).mono ?_
   rw [HC.out]
   rintro e w3 ⟨rfl, nn, rfl⟩
   go_wp2
   go_region_held3 (fun w' => w'.cell? ⟨w.heap.size + 1, 0, none⟩ = some (.bool nb)) (go_keep) (first
    | (go_at_call 96; refine (subtract_any A' A c' c y x _ (by exact Hn2.out.same) (by exact Hn3.out.same) (by omega) (by omega)).mono ?_; rintro e w3 ⟨A3, c3, rfl, hn, hb⟩; have HO3 := Lib.hid (HO2.out.next hb); obtain ⟨p0, p1, p2, p3, p4⟩ := HO3.out.blk 1 (w.heap.size + 1) rfl rfl; have Hn4 := Lib.hid hn; clear hb hn)
    | (go_at_call 40; refine (number_nt _ A3 c3 _ _ (by exact Hn4.out.same) (by omega)).mono ?_; rintro e w4 ⟨rfl, hb2⟩; have HO4 := Lib.hid (HO3.out.next hb2); obtain ⟨r0, r1, r2, r3, r4⟩ := HO4.out.blk 1 (w.heap.size + 1) rfl rfl; obtain ⟨j0, j1, j2, j3, j4⟩ := HO4.out.blk 2 (w.heap.size + 1 + 1) rfl rfl; clear hb2))
   all_goals go_wp2
   refine bodyPost_ret (v := .agg #[.bool (sg nb (y - x)), .string (mg (y - x))]) (by simp [results, Tryz.results66, go_sem, j0, j1]) rfl ?_
   refine RetInt.toI ⟨rfl, ?_⟩ (by unfold iv; rw [Hx.out, Hy.out]; exact add_less hs' (by omega))
   exact HO4.out.stored (w.heap.size + 1 + 1) (by omega) _ _
  ·have hge : 0 ≤ cmpN x y := by unfold cmpN; rw [if_neg hlt]; split <;> omega
   have hneg : ¬ cmpN x y < 0 := by omega
   have hle : nlen (x - y) ≤ nlen x := nlen_mono (Nat.sub_le _ _)
   go_wp2_with fail
   refine (compare_any A A' c c' x y _ (by exact Hn3.out.same) (by exact Hn2.out.same)).mono ?_
   rintro e w3 ⟨rfl, nn, rfl⟩
   go_wp2
   go_region_held3 (fun w' => w'.cell? ⟨w.heap.size, 0, none⟩ = some (.bool na)) (go_keep) (first
    | (go_at_call 96; refine (subtract_any A A' c c' x y _ (by exact Hn3.out.same) (by exact Hn2.out.same) (by omega) (by omega)).mono ?_; rintro e w3 ⟨A3, c3, rfl, hn, hb⟩; have HO3 := Lib.hid (HO2.out.next hb); obtain ⟨p0, p1, p2, p3, p4⟩ := HO3.out.blk 0 w.heap.size rfl rfl; have Hn4 := Lib.hid hn; clear hb hn)
    | (go_at_call 40; refine (number_nt _ A3 c3 _ _ (by exact Hn4.out.same) (by omega)).mono ?_; rintro e w4 ⟨rfl, hb2⟩; have HO4 := Lib.hid (HO3.out.next hb2); obtain ⟨r0, r1, r2, r3, r4⟩ := HO4.out.blk 0 w.heap.size rfl rfl; obtain ⟨j0, j1, j2, j3, j4⟩ := HO4.out.blk 2 (w.heap.size + 1 + 1) rfl rfl; clear hb2))
   all_goals go_wp2
   refine bodyPost_ret (v := .agg #[.bool (sg na (x - y)), .string (mg (x - y))]) (by simp [results, Tryz.results66, go_sem, j0, j1]) rfl ?_
   refine RetInt.toI ⟨rfl, ?_⟩ (by unfold iv; rw [Hx.out, Hy.out]; exact add_more hs' (by omega))
   exact HO4.out.stored (w.heap.size + 1 + 1) (by omega) _ _
end Go.Proofs.Gv
