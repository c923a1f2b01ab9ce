/- integer.Add, Sub: what they compute. -/
import Derived.Test.YtpnhccpfbeidlaaShortP
import Derived.Test.YtpnhccpfbeidlaaSub
import Derived.Test.YtpnhccpfbeidlaaDivideP
import Derived.Test.YtpnhccpfbeidlaaIntKit
import Derived.Laws.StructEq
import Derived.Deep.RegionHeld3
namespace Go.Proofs.Gv
open Go Go.RowKit

theorem nlen_add (x y : Nat) : nlen (x + y) ≤ nlen x + nlen y + 1 := by
  rw [nlen_le_iff]
  have h1 := Nat.lt_of_lt_of_le (lt_pow_nlen x) (Nat.pow_le_pow_right B32_pos (show nlen x ≤ nlen x + nlen y by omega))
  have h2 := Nat.lt_of_lt_of_le (lt_pow_nlen y) (Nat.pow_le_pow_right B32_pos (show nlen y ≤ nlen x + nlen y by omega))
  have h3 : 2 * B32 ^ (nlen x + nlen y) ≤ B32 * B32 ^ (nlen x + nlen y) := Nat.mul_le_mul_right _ (by decide)
  rw [Nat.pow_succ, Nat.mul_comm (B32 ^ _)]
  omega

end Go.Proofs.Gv

namespace Go.Proofs.Gv
open Go Go.RowKit

/-- Two words that make a natural. -/
theorem two_words (n : Nat) (h : n < 18446744073709551616) : val (fun i => if i = 0 then n % 4294967296 else n / 4294967296) 2 = n := by
  simp [val, B32]
  omega

def twoW (n i : Nat) : Nat := if i = 0 then n % 4294967296 else n / 4294967296
theorem two_row (W : World) {n : Nat} {a b : Int} (ha : a = (n : Int) % 4294967296) (hb : b = (n : Int) / 4294967296) :
    (W.alloc (.cells #[.int .u32 a, .int .u32 b] 59)).rowIs W.heap.size 59 2 (u32s (twoW n)) :=
  World.rowIs_alloc W _ _ _ fun i hi => by
    have hi' : i < 2 := by simpa using hi
    subst ha; subst hb
    match i, hi' with
    | 0, _ => simp [u32s, twoW]
    | 1, _ => simp [u32s, twoW]
theorem number_two (ng : Bool) (n N : Nat) (W : World) (hN : W.heap.size = N) (hn : n < 18446744073709551616) {a b : Int} (ha : a = (n : Int) % 4294967296) (hb : b = (n : Int) / 4294967296) :
    Calls Try.prog 44 #[.bool ng, .slice (some ⟨N, 0, none⟩) 2 2] (W.alloc (.cells #[.int .u32 a, .int .u32 b] 59)) (RetInt (W.alloc (.cells #[.int .u32 a, .int .u32 b] 59)) ng n) := by
  subst hN
  have := number_any ng (some ⟨W.heap.size, 0, none⟩) 2 2 (twoW n) (W.alloc (.cells #[.int .u32 a, .int .u32 b] 59)) (Rd.of_row (two_row W ha hb) (Nat.le_refl _)) (fun i _ => by unfold twoW B32; split <;> omega) (Nat.le_refl _) (by omega) (by omega)
  rwa [show val (twoW n) 2 = n from two_words n hn] at this

set_option maxHeartbeats 800000 in
theorem Of_any (z : Int) (w : World) (h1 : -9223372036854775808 ≤ z) (h2 : z < 9223372036854775808) :
    Calls Try.prog 31 #[.int .i64 z] w (RetI w z) := by
  by_cases h0 : z < 0
  · go_enter Try.func31, Try.ntmps31
    obtain ⟨n, hz⟩ : ∃ n : Nat, z = -(n : Int) := ⟨z.natAbs, by omega⟩
    have e1 : IntKind.u64.wrap (-IntKind.u64.wrap z) = (n : Int) := by rw [IntKind.wrap_u64, IntKind.wrap_u64]; omega
    have hn : n < 18446744073709551616 := by omega
    have e2 : (n : Int) / 4294967296 % 4294967296 = (n : Int) / 4294967296 := by omega
    have Hz := Lib.hid hz
    clear hz
    have HO := Lib.hid ((Own.one w (.cells #[.bool false, .string ⟨#[]⟩] 23)).next ((Below.refl _ _).alloc (Nat.le_refl _) (.cells #[.int .u32 ((n : Int) % 4294967296), .int .u32 ((n : Int) / 4294967296)] 59)))
    go_wp2_with fail
    refine (number_two true n (w.heap.size + 1) _ (by simp) hn rfl rfl).mono ?_
    rintro e w1 ⟨rfl, hb⟩
    have HO1 := Lib.hid (HO.out.next hb)
    obtain ⟨a0, a1, a2, a3, a4⟩ := HO1.out.blk 0 w.heap.size rfl rfl
    go_wp2
    refine bodyPost_ret (v := .agg #[.bool (sg true n), .string (mg n)]) (by simp [results, Try.results31, go_sem, a0, a1]) rfl ?_
    refine RetInt.toI ⟨rfl, ?_⟩ (by rw [Hz.out]; simp)
    exact HO1.out.stored w.heap.size (Nat.le_refl _) _ _
  · obtain ⟨n, rfl⟩ : ∃ n : Nat, z = n := ⟨z.toNat, by omega⟩
    go_enter Try.func31, Try.ntmps31
    go_wp2_with fail
    have HO := Lib.hid ((Own.one w (.cells #[.bool false, .string ⟨#[]⟩] 23)).next ((Below.refl _ _).alloc (Nat.le_refl _) (.cells #[.int .u32 ((n : Int) % 4294967296), .int .u32 ((n : Int) / 4294967296)] 59)))
    refine (number_two false n (w.heap.size + 1) _ (by simp) (by omega) rfl rfl).mono ?_
    rintro e w1 ⟨rfl, hb⟩
    have HO1 := Lib.hid (HO.out.next hb)
    obtain ⟨a0, a1, a2, a3, a4⟩ := HO1.out.blk 0 w.heap.size rfl rfl
    go_wp2
    refine bodyPost_ret (v := .agg #[.bool (sg false n), .string (mg n)]) (by simp [results, Try.results31, go_sem, a0, a1]) rfl ?_
    refine RetInt.toI ⟨rfl, ?_⟩ (by simp)
    exact HO1.out.stored w.heap.size (Nat.le_refl _) _ _
end Go.Proofs.Gv

namespace Go.Proofs.Gv
open Go Go.RowKit

/-- Sign and bytes are equal. -/
def eqI (a : Bool) (s : ByteArray) (b : Bool) (t : ByteArray) : Bool := (a == b) && (s.toList == t.toList)
theorem eqI_iff {a b : Bool} {s t : ByteArray} : eqI a s b t = true ↔ a = b ∧ s = t := by
  unfold eqI
  rw [Bool.and_eq_true, beq_iff_eq, beq_iff_eq, ByteArray.toList_eq, ByteArray.toList_eq]
  constructor
  · rintro ⟨h1, h2⟩; exact ⟨h1, by rcases s with ⟨⟨x⟩⟩; rcases t with ⟨⟨y⟩⟩; simpa using h2⟩
  · rintro ⟨rfl, rfl⟩; exact ⟨rfl, rfl⟩
theorem eqS (a b : Bool) (s t : ByteArray) (w : World) :
    (Op.equalIn 10000 23 (.agg #[.bool a, .string s]) (.agg #[.bool b, .string t])).run Try.prog w = .ok (eqI a s b t) w := by
  have hS : Try.prog.underlying 23 = some (.struct (Try.prog.fieldsOf 23)) := by kernel_rfl
  have hp : Try.prog.stoodInHeld 23 = false := by kernel_rfl
  have u4 := Try.underlying4
  have a4 := Try.isAgg4
  have z4 := Try.sizeOf4
  have u9 := Try.underlying9
  have a9 := Try.isAgg9
  have z9 := Try.sizeOf9
  rw [show (10000 : Nat) = 9999 + 1 from rfl, run_equalIn_agg w 9999 23 _ _ hS hp]
  simp only [Program.fieldsOf, Try.underlying23]
  go_simp
  unfold eqI
  by_cases h : s.toList = t.toList <;> cases a <;> cases b <;> simp [h]
@[go_sem ↓] theorem run_eqlS (a b : Bool) (s t : ByteArray) (w : World) :
    (binOp .eql 23 (.agg #[.bool a, .string s]) (.agg #[.bool b, .string t])).run Try.prog w = .ok (.bool (eqI a s b t)) w := by
  rw [run_eql_struct, eqS]; rfl
@[go_sem ↓] theorem run_neqS (a b : Bool) (s t : ByteArray) (w : World) :
    (binOp .neq 23 (.agg #[.bool a, .string s]) (.agg #[.bool b, .string t])).run Try.prog w = .ok (.bool (!eqI a s b t)) w := by
  rw [run_neq_struct, eqS]; rfl
@[go_sem] theorem eqGuardS : Try.prog.eqGuardType Try.prog.depth 23 = false := by kernel_rfl
end Go.Proofs.Gv

namespace Go.Proofs.Gv
open Go Go.RowKit

theorem Mul_V (a b : Int) (w : World) (ha : (mg a.natAbs).size ≤ 15000000) (hb : (mg b.natAbs).size ≤ 15000000) :
    Calls Try.prog 18 #[.agg #[.bool (sgn a), .string (mg a.natAbs)], .agg #[.bool (sgn b), .string (mg b.natAbs)]] w (RetI w (a * b)) := by
  have := Mul_any (sgn a) (sgn b) (mg a.natAbs) (mg b.natAbs) w ha hb
  rwa [iv_V, iv_V] at this
theorem mg_zero : mg 0 = ⟨#[]⟩ := by
  have h := byt_len_le 0 0 (by decide)
  have : byt 0 = [] := List.eq_nil_of_length_eq_zero (by omega)
  unfold mg; rw [this]
theorem sgn_zero : sgn 0 = false := rfl
end Go.Proofs.Gv

namespace Go.Proofs.Gv
open Go Go.RowKit

theorem mg_size_iv (na : Bool) (sa : ByteArray) : (mg (iv na sa).natAbs).size ≤ sa.size := size_mg (iv_lt na sa)
theorem mg_size_neg (na : Bool) (sa : ByteArray) : (mg (-iv na sa).natAbs).size ≤ sa.size := by rw [Int.natAbs_neg]; exact mg_size_iv na sa

/-- -1, 0 or 1. -/
def cmpI (a b : Int) : Int := if a < b then -1 else if b < a then 1 else 0
theorem cmpI_lt {a b : Int} (h : a < b) : cmpI a b = -1 := by simp [cmpI, h]
theorem cmpI_gt {a b : Int} (h : b < a) : cmpI a b = 1 := by unfold cmpI; rw [if_neg (by omega), if_pos h]
theorem cmpI_eq (a : Int) : cmpI a a = 0 := by simp [cmpI]

theorem mg_toList (n : Nat) : (mg n).toList = byt n := by rw [ByteArray.toList_eq]; exact mg_list n
theorem mg_empty : (mg 0).toList.isEmpty = true := by rw [mg_toList, byt_zero]; rfl
theorem mg_full {n : Nat} (h : n ≠ 0) : (mg n).toList.isEmpty = false := by
  rw [mg_toList]
  have := mt byt_eq_nil.1 h
  cases e : byt n with
  | nil => exact absurd e this
  | cons a l => rfl

end Go.Proofs.Gv
