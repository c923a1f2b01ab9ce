import Derived.Laws.StructEq
import Derived.Test.YtfhncfphphieiaaGreatIntBP
import Derived.Deep.RegionHeld3
set_option maxHeartbeats 1600000
set_option linter.unusedSimpArgs false
set_option linter.unusedVariables false
namespace Go.Proofs.Gv
open Go Go.RowKit
theorem two_words (n : Nat) (h : n < 18446744073709551616) : val (fun i => if i = 0 then n % 4294967296 else n / 4294967296) 2 = n := by
 simp [val, B32]
 omega
def twoW (n i : Nat) : Nat := if i = 0 then n % 4294967296 else n / 4294967296
theorem two_row (W : World) {n : Nat} {a b : Int} (ha : a = (n : Int) % 4294967296) (hb : b = (n : Int) / 4294967296) :
  (W.alloc (.cells #[.int .u32 a, .int .u32 b] 74)).rowIs W.heap.size 74 2 (u32s (twoW n)) :=
 World.rowIs_alloc W _ _ _ fun i hi => by
  have hi' : i < 2 := by simpa using hi
  subst ha; subst hb
  match i, hi' with
  | 0, _ => simp [u32s, twoW]
  | 1, _ => simp [u32s, twoW]
theorem number_two (ng : Bool) (n N : Nat) (W : World) (hN : W.heap.size = N) (hn : n < 18446744073709551616) {a b : Int} (ha : a = (n : Int) % 4294967296) (hb : b = (n : Int) / 4294967296) :
  Calls Tryz.prog 40 #[.bool ng, .slice (some ⟨N, 0, none⟩) 2 2] (W.alloc (.cells #[.int .u32 a, .int .u32 b] 74)) (RetInt (W.alloc (.cells #[.int .u32 a, .int .u32 b] 74)) ng n) := by
 subst hN
 have := number_any ng (some ⟨W.heap.size, 0, none⟩) 2 2 (twoW n) (W.alloc (.cells #[.int .u32 a, .int .u32 b] 74)) (Rd.of_row (two_row W ha hb) (Nat.le_refl _)) (fun i _ => by unfold twoW B32; split <;> omega) (Nat.le_refl _) (by omega) (by omega)
 rwa [show val (twoW n) 2 = n from two_words n hn] at this
theorem Of_any (z : Int) (w : World) (h1 : -9223372036854775808 ≤ z) (h2 : z < 9223372036854775808) :
  Calls Tryz.prog 20 #[.int .i64 z] w (RetI w z) := by
 by_cases h0 : z < 0
 ·go_enter Tryz.func20, Tryz.ntmps20
  obtain ⟨n, hz⟩ : ∃ n : Nat, z = -(n : Int) := ⟨z.natAbs, by omega⟩
  have e1 : IntKind.u64.wrap (-IntKind.u64.wrap z) = (n : Int) := by rw [IntKind.wrap_u64, IntKind.wrap_u64]; omega
  have hn : n < 18446744073709551616 := by omega
  have e2 : (n : Int) / 4294967296 % 4294967296 = (n : Int) / 4294967296 := by omega
  have Hz := Lib.hid hz
  clear hz
  have HO := Lib.hid ((Own.one w (.cells #[.bool false, .string ⟨#[]⟩] 36)).next ((Below.refl _ _).alloc (Nat.le_refl _) (.cells #[.int .u32 ((n : Int) % 4294967296), .int .u32 ((n : Int) / 4294967296)] 74)))
  go_wp2_with fail
  refine (number_two true n (w.heap.size + 1) _ (by simp) hn rfl rfl).mono ?_
  rintro e w1 ⟨rfl, hb⟩
  have HO1 := Lib.hid (HO.out.next hb)
  obtain ⟨a0, a1, a2, a3, a4⟩ := HO1.out.blk 0 w.heap.size rfl rfl
  go_wp2
  refine bodyPost_ret (v := .agg #[.bool (sg true n), .string (mg n)]) (by simp [results, Tryz.results20, go_sem, a0, a1]) rfl ?_
  refine RetInt.toI ⟨rfl, ?_⟩ (by rw [Hz.out]; simp)
  exact HO1.out.stored w.heap.size (Nat.le_refl _) _ _
 ·obtain ⟨n, rfl⟩ : ∃ n : Nat, z = n := ⟨z.toNat, by omega⟩
  go_enter Tryz.func20, Tryz.ntmps20
  go_wp2_with fail
  have HO := Lib.hid ((Own.one w (.cells #[.bool false, .string ⟨#[]⟩] 36)).next ((Below.refl _ _).alloc (Nat.le_refl _) (.cells #[.int .u32 ((n : Int) % 4294967296), .int .u32 ((n : Int) / 4294967296)] 74)))
  refine (number_two false n (w.heap.size + 1) _ (by simp) (by omega) rfl rfl).mono ?_
  rintro e w1 ⟨rfl, hb⟩
  have HO1 := Lib.hid (HO.out.next hb)
  obtain ⟨a0, a1, a2, a3, a4⟩ := HO1.out.blk 0 w.heap.size rfl rfl
  go_wp2
  refine bodyPost_ret (v := .agg #[.bool (sg false n), .string (mg n)]) (by simp [results, Tryz.results20, go_sem, a0, a1]) rfl ?_
  refine RetInt.toI ⟨rfl, ?_⟩ (by simp)
  exact HO1.out.stored w.heap.size (Nat.le_refl _) _ _
end Go.Proofs.Gv
namespace Go.Proofs.Gv
open Go Go.RowKit
def eqI (a : Bool) (s : ByteArray) (b : Bool) (t : ByteArray) : Bool := (a == b) && (s.toList == t.toList)
theorem eqI_iff {a b : Bool} {s t : ByteArray} : eqI a s b t = true ↔ a = b ∧ s = t := by
 unfold eqI
 rw [Bool.and_eq_true, beq_iff_eq, beq_iff_eq, ByteArray.toList_eq, ByteArray.toList_eq]
 constructor
 ·rintro ⟨h1, h2⟩; exact ⟨h1, by rcases s with ⟨⟨x⟩⟩; rcases t with ⟨⟨y⟩⟩; simpa using h2⟩
 ·rintro ⟨rfl, rfl⟩; exact ⟨rfl, rfl⟩
theorem eqS (a b : Bool) (s t : ByteArray) (w : World) :
  (Op.equalIn 10000 36 (.agg #[.bool a, .string s]) (.agg #[.bool b, .string t])).run Tryz.prog w = .ok (eqI a s b t) w := by
 have hS : Tryz.prog.underlying 36 = some (.struct (Tryz.prog.fieldsOf 36)) := by kernel_rfl
 have hp : Tryz.prog.stoodInHeld 36 = false := by kernel_rfl
 have u4 := Tryz.underlying4
 have a4 := Tryz.isAgg4
 have z4 := Tryz.sizeOf4
 have u9 := Tryz.underlying9
 have a9 := Tryz.isAgg9
 have z9 := Tryz.sizeOf9
 rw [show (10000 : Nat) = 9999 + 1 from rfl, run_equalIn_agg w 9999 36 _ _ hS hp]
 simp only [Program.fieldsOf, Tryz.underlying36]
 go_simp
 unfold eqI
 by_cases h : s.toList = t.toList <;> cases a <;> cases b <;> simp [h]
@[go_sem ↓] theorem run_eqlS (a b : Bool) (s t : ByteArray) (w : World) :
  (binOp .eql 36 (.agg #[.bool a, .string s]) (.agg #[.bool b, .string t])).run Tryz.prog w = .ok (.bool (eqI a s b t)) w := by
 rw [run_eql_struct, eqS]; rfl
@[go_sem ↓] theorem run_neqS (a b : Bool) (s t : ByteArray) (w : World) :
  (binOp .neq 36 (.agg #[.bool a, .string s]) (.agg #[.bool b, .string t])).run Tryz.prog w = .ok (.bool (!eqI a s b t)) w := by
 rw [run_neq_struct, eqS]; rfl
@[go_sem] theorem eqGuardS : Tryz.prog.eqGuardType Tryz.prog.depth 36 = false := by kernel_rfl
end Go.Proofs.Gv
namespace Go.Proofs.Gv
open Go Go.RowKit
theorem mg_zero : mg 0 = ⟨#[]⟩ := by
 have h := byt_len_le 0 0 (by decide)
 have : byt 0 = [] := List.eq_nil_of_length_eq_zero (by omega)
 unfold mg; rw [this]
theorem sgn_zero : sgn 0 = false := rfl
end Go.Proofs.Gv
namespace Go.Proofs.Gv
open Go Go.RowKit
theorem Neg_any (na : Bool) (sa : ByteArray) (w : World) (ha : sa.size ≤ 30000000) :
  Calls Tryz.prog 102 #[.agg #[.bool na, .string sa]] w (RetI w (-iv na sa)) := by
 go_enter Tryz.func102, Tryz.ntmps102
 go_wp2
 obtain ⟨W, hW⟩ : ∃ W, (w.alloc (.cells #[.bool na, .string sa] 36)).alloc (.cells #[.bool false, .string ⟨#[]⟩] 36) = W := ⟨_, rfl⟩
 have HO := Lib.hid (Own.two w (.cells #[.bool na, .string sa] 36) (.cells #[.bool false, .string ⟨#[]⟩] 36))
 rw [hW] at HO ⊢
 clear hW
 obtain ⟨a0, a1, a2, a3, a4⟩ := HO.out.blk 0 w.heap.size rfl rfl
 obtain ⟨b0, b1, b2, b3, b4⟩ := HO.out.blk 1 (w.heap.size + 1) rfl rfl
 go_region_held3 (fun w' => w'.cell? ⟨w.heap.size, 0, none⟩ = some (.bool na) ∧ w'.cell? ⟨w.heap.size, 1, none⟩ = some (.string sa)) (go_keep) (first
  | (go_at_call 73; refine (digits_any na sa _ (by omega)).mono ?_; rintro e w1 ⟨A, c, rfl, hn, hb⟩; have HO1 := Lib.hid (HO.out.next hb); obtain ⟨k0, k1, k2, k3, k4⟩ := HO1.out.blk 0 w.heap.size rfl rfl; obtain ⟨l0, l1, l2, l3, l4⟩ := HO1.out.blk 1 (w.heap.size + 1) rfl rfl; clear hb)
  | (go_at_call 40; refine (number_nt _ A c _ _ (by assumption) (by have := nlen_bv (s := sa); omega)).mono ?_; rintro e w2 ⟨rfl, hb2⟩; have HO2 := Lib.hid (HO1.out.next hb2); obtain ⟨m0, m1, m2, m3, m4⟩ := HO2.out.blk 0 w.heap.size rfl rfl; obtain ⟨j0, j1, j2, j3, j4⟩ := HO2.out.blk 1 (w.heap.size + 1) rfl rfl; clear hb2))
 go_wp2
 refine bodyPost_ret (v := .agg #[.bool (sg (!na) (bv sa.data.toList)), .string (mg (bv sa.data.toList))]) (by simp [results, Tryz.results102, go_sem, j0, j1]) rfl ?_
 refine RetInt.toI ⟨rfl, ?_⟩ (by unfold iv; cases na <;> simp)
 exact HO2.out.stored (w.heap.size + 1) (by omega) _ _
end Go.Proofs.Gv
namespace Go.Proofs.Gv
open Go Go.RowKit
theorem mg_size_iv (na : Bool) (sa : ByteArray) : (mg (iv na sa).natAbs).size ≤ sa.size := size_mg (iv_lt na sa)
theorem mg_size_neg (na : Bool) (sa : ByteArray) : (mg (-iv na sa).natAbs).size ≤ sa.size := by rw [Int.natAbs_neg]; exact mg_size_iv na sa
theorem Sub_any (na nb : Bool) (sa sb : ByteArray) (w : World) (ha : sa.size ≤ 15000000) (hb : sb.size ≤ 15000000) :
  Calls Tryz.prog 74 #[.agg #[.bool na, .string sa], .agg #[.bool nb, .string sb]] w (RetI w (iv na sa - iv nb sb)) := by
 have L1 := mg_size_neg nb sb
 obtain ⟨z, hz⟩ : ∃ z, iv na sa - iv nb sb = z := ⟨_, rfl⟩
 rw [hz]
 obtain ⟨q, hq⟩ : ∃ q, -iv nb sb = q := ⟨_, rfl⟩
 have HN : Hid (∀ w', Calls Tryz.prog 102 #[.agg #[.bool nb, .string sb]] w' (RetI w' q)) := fun w' => by rw [← hq]; exact Neg_any nb sb w' (by omega)
 rw [hq] at L1
 have HA : Hid (∀ w', Calls Tryz.prog 66 #[.agg #[.bool na, .string sa], .agg #[.bool (sgn q), .string (mg q.natAbs)]] w' (RetI w' z)) := fun w' => by
  have := Add_any na (sgn q) sa (mg q.natAbs) w' (by omega) (by omega)
  rwa [iv_V, ← hq, ← Int.sub_eq_add_neg, hz, hq] at this
 clear hz hq
 go_enter Tryz.func74, Tryz.ntmps74
 go_wp2
 obtain ⟨W, hW⟩ : ∃ W, ((w.alloc (.cells #[.bool na, .string sa] 36)).alloc (.cells #[.bool nb, .string sb] 36)).alloc (.cells #[.bool false, .string ⟨#[]⟩] 36) = W := ⟨_, rfl⟩
 have HO := Lib.hid (Own.three w (.cells #[.bool na, .string sa] 36) (.cells #[.bool nb, .string sb] 36) (.cells #[.bool false, .string ⟨#[]⟩] 36))
 rw [hW] at HO ⊢
 clear hW
 obtain ⟨a0, a1, a2, a3, a4⟩ := HO.out.blk 0 w.heap.size rfl rfl
 obtain ⟨b0, b1, b2, b3, b4⟩ := HO.out.blk 1 (w.heap.size + 1) rfl rfl
 have ne1 : ¬ w.heap.size = w.heap.size + 1 + 1 := by omega
 have ne2 : ¬ w.heap.size + 1 + 1 = w.heap.size := by omega
 go_region_held3 (fun w' => w'.cell? ⟨w.heap.size, 0, none⟩ = some (.bool na) ∧ w'.cell? ⟨w.heap.size, 1, none⟩ = some (.string sa) ∧ w'.cell? ⟨w.heap.size + 1, 0, none⟩ = some (.bool nb) ∧ w'.cell? ⟨w.heap.size + 1, 1, none⟩ = some (.string sb)) (go_keep) (first
  | (go_at_call 102; refine (HN.out _).mono ?_; rintro e w1 ⟨rfl, hb⟩; have HO1 := Lib.hid (HO.out.next hb); obtain ⟨k0, k1, k2, k3, k4⟩ := HO1.out.blk 0 w.heap.size rfl rfl; obtain ⟨l0, l1, l2, l3, l4⟩ := HO1.out.blk 1 (w.heap.size + 1) rfl rfl; clear hb)
  | (go_at_call 66; refine (HA.out _).mono ?_; rintro e w2 ⟨rfl, hb⟩; have HO2 := Lib.hid (HO1.out.next hb); obtain ⟨m0, m1, m2, m3, m4⟩ := HO2.out.blk 0 w.heap.size rfl rfl; obtain ⟨n0, n1, n2, n3, n4⟩ := HO2.out.blk 1 (w.heap.size + 1) rfl rfl; obtain ⟨j0, j1, j2, j3, j4⟩ := HO2.out.blk 2 (w.heap.size + 1 + 1) rfl rfl; clear hb))
 all_goals go_wp2
 refine bodyPost_ret (v := .agg #[.bool (sgn z), .string (mg z.natAbs)]) (by simp [results, Tryz.results74, go_sem, j0, j1]) rfl ?_
 exact ⟨rfl, HO2.out.stored (w.heap.size + 1 + 1) (by omega) _ _⟩
def cmpI (a b : Int) : Int := if a < b then -1 else if b < a then 1 else 0
theorem cmpI_lt {a b : Int} (h : a < b) : cmpI a b = -1 := by simp [cmpI, h]
theorem cmpI_gt {a b : Int} (h : b < a) : cmpI a b = 1 := by unfold cmpI; rw [if_neg (by omega), if_pos h]
theorem cmpI_eq (a : Int) : cmpI a a = 0 := by simp [cmpI]
theorem mg_toList (n : Nat) : (mg n).toList = byt n := by rw [ByteArray.toList_eq]; exact mg_list n
theorem mg_empty : (mg 0).toList.isEmpty = true := by rw [mg_toList, byt_zero]; rfl
theorem mg_full {n : Nat} (h : n ≠ 0) : (mg n).toList.isEmpty = false := by
 rw [mg_toList]
 have := mt byt_eq_nil.1 h
 cases e : byt n with
 | nil => exact absurd e this
 | cons a l => rfl
theorem Compare_any (na nb : Bool) (sa sb : ByteArray) (w : World) (ha : sa.size ≤ 15000000) (hb : sb.size ≤ 15000000) :
  Calls Tryz.prog 42 #[.agg #[.bool na, .string sa], .agg #[.bool nb, .string sb]] w fun e w' => e = .returned (.int .i64 (cmpI (iv na sa) (iv nb sb))) ∧ Below w.heap.size w w' := by
 go_enter Tryz.func42, Tryz.ntmps42
 go_wp2_with fail
 have HO := Lib.hid (Own.two w (.cells #[.bool na, .string sa] 36) (.cells #[.bool nb, .string sb] 36))
 refine (Sub_any na nb sa sb _ ha hb).mono ?_
 rintro e w1 ⟨rfl, hb1⟩
 have HO1 := Lib.hid (HO.out.next hb1)
 clear hb1
 obtain ⟨d, hd⟩ : ∃ d, iv na sa - iv nb sb = d := ⟨_, rfl⟩
 have Hd := Lib.hid hd
 rw [hd]
 clear hd
 by_cases h1 : d < 0
 ·have hs : sgn d = true := by unfold sgn; simpa using h1
  rw [hs]
  clear hs
  go_wp2
  go_ret
  exact ⟨by rw [cmpI_lt (by have := Hd.out; omega)]; rfl, HO1.out.below.alloc HO1.out.below.size _⟩
 ·have hs : sgn d = false := by unfold sgn; simpa using h1
  rw [hs]
  clear hs
  by_cases h2 : d = 0
  ·have he : (mg d.natAbs).toList.isEmpty = true := by rw [h2]; exact mg_empty
   have Hd2 := Lib.hid h2
   clear h2
   go_wp2
   go_ret
   exact ⟨by rw [show iv na sa = iv nb sb by have := Hd.out; have := Hd2.out; omega, cmpI_eq]; rfl, HO1.out.below.alloc HO1.out.below.size _⟩
  ·have he : (mg d.natAbs).toList.isEmpty = false := mg_full (by omega)
   have h3 : 0 < d := by omega
   clear h2
   go_wp2
   go_ret
   exact ⟨by rw [cmpI_gt (by have := Hd.out; omega)]; rfl, HO1.out.below.alloc HO1.out.below.size _⟩
end Go.Proofs.Gv
namespace Go.Proofs.Gv
theorem norm_Y {y L : Nat} (h : 2 ≤ nlen y) (h2 : 2147483648 ≤ D y (nlen y - 1) * 2 ^ L) (h3 : (D y (nlen y - 1) + 1) * 2 ^ L ≤ 4294967296) :
  y * 2 ^ L < B32 ^ nlen y ∧ 2147483648 ≤ D (y * 2 ^ L) (nlen y - 1) := by
 have hy : y ≠ 0 := by intro e; rw [e, nlen_zero] at h; omega
 have ht := (D_top hy).1
 have hlt := Nat.lt_mul_div_succ y (pow_pos (nlen y - 1))
 have hle := Nat.div_mul_le_self y (B32 ^ (nlen y - 1))
 rw [← ht] at hlt hle
 have e : B32 ^ nlen y = B32 * B32 ^ (nlen y - 1) := by
  conv => lhs; rw [show nlen y = nlen y - 1 + 1 by omega]
  rw [Nat.pow_succ, Nat.mul_comm]
 have h4 : y * 2 ^ L < B32 ^ nlen y := by
  have a : y * 2 ^ L < B32 ^ (nlen y - 1) * (D y (nlen y - 1) + 1) * 2 ^ L := Nat.mul_lt_mul_of_pos_right hlt (Nat.pow_pos (by decide))
  have b : B32 ^ (nlen y - 1) * ((D y (nlen y - 1) + 1) * 2 ^ L) ≤ B32 ^ (nlen y - 1) * B32 := Nat.mul_le_mul_left _ h3
  rw [Nat.mul_assoc] at a
  rw [e, Nat.mul_comm B32]
  omega
 refine ⟨h4, ?_⟩
 have h5 : y * 2 ^ L / B32 ^ (nlen y - 1) < B32 := by
  rw [Nat.div_lt_iff_lt_mul (pow_pos _), ← e]; exact h4
 unfold D at *
 rw [Nat.mod_eq_of_lt h5]
 refine Nat.le_trans h2 ?_
 rw [Nat.le_div_iff_mul_le (pow_pos _)]
 have a := Nat.mul_le_mul_right (2 ^ L) hle
 rw [Nat.mul_assoc, Nat.mul_comm (B32 ^ _), ← Nat.mul_assoc] at a
 exact a
theorem norm_X {x y : Nat} (L : Nat) (h : 1 ≤ nlen y) (hxy : nlen y ≤ nlen x) : x * 2 ^ L / B32 ^ (nlen x + 1 - nlen y) < y * 2 ^ L := by
 rw [Nat.div_lt_iff_lt_mul (pow_pos _)]
 have h1 : B32 ^ (nlen y - 1) ≤ y := lt_nlen_iff.1 (by omega)
 have h2 := lt_pow_nlen x
 have h3 : B32 ^ (nlen y - 1) * B32 ^ (nlen x + 1 - nlen y) ≤ y * B32 ^ (nlen x + 1 - nlen y) := Nat.mul_le_mul_right _ h1
 rw [← Nat.pow_add, show nlen y - 1 + (nlen x + 1 - nlen y) = nlen x by omega] at h3
 have h4 : x * 2 ^ L < y * B32 ^ (nlen x + 1 - nlen y) * 2 ^ L := Nat.mul_lt_mul_of_pos_right (by omega) (Nat.pow_pos (by decide))
 rwa [Nat.mul_assoc, Nat.mul_comm (B32 ^ _), ← Nat.mul_assoc] at h4
section
variable {X Y M k g : Nat}
def win (X Y k : Nat) : Nat := sr X Y (k + 1) * B32 + D X k
theorem win_lt (hY : 0 < Y) : win X Y k < Y * B32 := by
 unfold win
 have h1 : (sr X Y (k + 1) + 1) * B32 ≤ Y * B32 := Nat.mul_le_mul_right _ (Nat.mod_lt _ hY)
 have := D_lt X k
 rw [Nat.add_mul] at h1; omega
theorem win_quo (hY : 0 < Y) : win X Y k / Y = D (X / Y) k := sr_digit X k hY
theorem win_rem (hY : 0 < Y) : win X Y k % Y = sr X Y k := sr_step X k hY
def num (X k b : Nat) : Nat := join k (X % B32 ^ k) b
theorem num_start (X Y k : Nat) : num X (k + 1) (sr X Y (k + 1)) = num X k (win X Y k) := join_step X k _
theorem num_high (X k b t : Nat) : D (num X k b) (t + k) = D b t := by
 unfold num
 rw [Nat.add_comm, D_join_high (Nat.mod_lt _ (pow_pos k))]
theorem num_low {X k b b' i : Nat} (h : i < k) : D (num X k b) i = D (num X k b') i := by
 unfold num
 rw [D_join_low h, D_join_low h]
theorem num_top {X K r : Nat} (h : X / B32 ^ K = r) : num X K r = X := by
 subst h
 unfold num join
 rw [Nat.add_comm, Nat.mul_comm]
 exact Nat.div_add_mod _ _
theorem num_zero (X r : Nat) : num X 0 r = r := by simp [num, join, Nat.mod_one]
theorem num_lt {X k b m : Nat} (hb : b < B32 ^ m) : num X k b < B32 ^ (k + m) := join_lt (Nat.mod_lt _ (pow_pos k)) hb
def dif (W Y M g : Nat) : Nat := W + B32 ^ (M + 1) - g * Y
section
variable {W : Nat}
theorem gY_lt (hY : Y < B32 ^ M) (hg : g ≤ B32) : g * Y < B32 ^ (M + 1) := by
 rw [Nat.pow_succ, Nat.mul_comm (B32 ^ M)]
 rcases Nat.eq_zero_or_pos g with e | e
 ·subst e; rw [Nat.zero_mul]; exact Nat.mul_pos B32_pos (pow_pos M)
 ·exact Nat.lt_of_lt_of_le (Nat.mul_lt_mul_of_pos_left hY e) (Nat.mul_le_mul_right _ hg)
theorem one_top {W n i : Nat} (hi : i < n) : D (W + B32 ^ n) i = D W i := by
 rw [← D_mod (x := W + B32 ^ n) hi, Nat.add_mod_right, D_mod hi]
theorem dif_le (hY : Y < B32 ^ M) (hg : g ≤ B32) : g * Y ≤ W + B32 ^ (M + 1) := by
 have := gY_lt hY hg; omega
theorem dif_neg (hY : Y < B32 ^ M) (hg : g ≤ B32) {t : Nat} (ht : t ≤ M) (hneg : (D W t : Int) - bw (W + B32 ^ (M + 1)) (g * Y) t - (D (g * Y) t : Nat) < 0) :
  bw (W + B32 ^ (M + 1)) (g * Y) (t + 1) = 1 ∧ (D W t : Int) - bw (W + B32 ^ (M + 1)) (g * Y) t - (D (g * Y) t : Nat) + 4294967296 = (D (dif W Y M g) t : Nat) := by
 rw [← one_top (W := W) (n := M + 1) (i := t) (by omega)] at hneg ⊢
 exact bw_neg (dif_le hY hg) rfl hneg
theorem dif_nn (hY : Y < B32 ^ M) (hg : g ≤ B32) {t : Nat} (ht : t ≤ M) (hneg : ¬ (D W t : Int) - bw (W + B32 ^ (M + 1)) (g * Y) t - (D (g * Y) t : Nat) < 0) :
  bw (W + B32 ^ (M + 1)) (g * Y) (t + 1) = 0 ∧ (D W t : Int) - bw (W + B32 ^ (M + 1)) (g * Y) t - (D (g * Y) t : Nat) = (D (dif W Y M g) t : Nat) := by
 rw [← one_top (W := W) (n := M + 1) (i := t) (by omega)] at hneg ⊢
 exact bw_nn (dif_le hY hg) rfl hneg
theorem bw_full (hW : W < B32 ^ (M + 1)) (hY : Y < B32 ^ M) (hg : g ≤ B32) : bw (W + B32 ^ (M + 1)) (g * Y) (M + 1) = 1 ↔ W < g * Y := by
 unfold bw
 rw [Nat.add_mod_right, Nat.mod_eq_of_lt hW, Nat.mod_eq_of_lt (gY_lt hY hg)]
 split <;> simp_all
theorem hc_top (hY : Y < B32 ^ M) (hg : g ≤ B32) : hc Y g M = D (g * Y) M := by
 rcases Nat.eq_zero_or_pos g with e | e
 ·subst e; simp [hc, D_zero]
 ·rw [hc_last hY hg e, Nat.mul_comm]
theorem hc_small (hg : g ≤ B32) (t : Nat) : hc Y g t < B32 := by
 rcases Nat.eq_zero_or_pos g with e | e
 ·subst e; simp [hc]; exact B32_pos
 ·exact Nat.lt_of_lt_of_le (hc_lt Y t e) hg
theorem right_guess (hY : 0 < Y) (h1 : W / Y ≤ g) (h2 : ¬ W < g * Y) : g = W / Y ∧ W - g * Y = W % Y := by
 have h3 : g ≤ W / Y := (Nat.le_div_iff_mul_le hY).2 (by omega)
 have e : g = W / Y := Nat.le_antisymm h3 h1
 refine ⟨e, ?_⟩
 rw [e]
 have := Nat.div_add_mod W Y
 rw [Nat.mul_comm] at this
 omega
theorem wrong_guess (hY : 0 < Y) (hYM : Y < B32 ^ M) (h2 : W < g * Y) (h3 : g * Y ≤ W + Y) : 1 ≤ g ∧ g - 1 = W / Y ∧ dif W Y M g + Y = W % Y + B32 ^ (M + 1) := by
 obtain ⟨e, rfl⟩ : ∃ e, g = e + 1 := ⟨g - 1, by
  rcases Nat.eq_zero_or_pos g with e | e
  ·subst e; rw [Nat.zero_mul] at h2; omega
  ·omega⟩
 rw [Nat.add_mul, Nat.one_mul] at h2 h3
 have h4 : e ≤ W / Y := (Nat.le_div_iff_mul_le hY).2 (by omega)
 have h5 : W / Y < e + 1 := (Nat.div_lt_iff_lt_mul hY).2 (by rw [Nat.add_mul, Nat.one_mul]; omega)
 have e1 : e = W / Y := by omega
 have := Nat.div_add_mod W Y
 rw [Nat.mul_comm, ← e1] at this
 refine ⟨by omega, by rw [← e1]; omega, ?_⟩
 unfold dif
 rw [Nat.add_mul, Nat.one_mul]
 have hp : B32 ^ M ≤ B32 ^ (M + 1) := Nat.pow_le_pow_right B32_pos (by omega)
 generalize W % Y = r at *
 omega
theorem dif_right {W Y M g : Nat} (h2 : ¬ W < g * Y) : dif W Y M g = (W - g * Y) + B32 ^ (M + 1) := by unfold dif; omega
end
end
theorem carry_nextI2 (x y k : Nat) : ((D x k : Int) + D y k + carry x y k) / 4294967296 = (carry x y (k + 1) : Nat) := by
 rw [← carry_nextI]; congr 1; omega
theorem carry_digitI2 (x y k : Nat) : ((D x k : Int) + D y k + carry x y k) % 4294967296 = (D (x + y) k : Nat) := by
 rw [← carry_digitI]; congr 1; omega
theorem hc_nextI2 (x p k : Nat) : ((p : Int) * D x k + hc x p k) / 4294967296 = (hc x p (k + 1) : Nat) := by
 rw [← hc_next, Int.mul_comm, ← Int.natCast_mul]
 generalize D x k * p = q
 show _ = (((_ + _) / 4294967296 : Nat) : Int); omega
theorem hc_digitI2 (x p k : Nat) : ((p : Int) * D x k + hc x p k) % 4294967296 = (D (p * x) k : Nat) := by
 rw [Nat.mul_comm p x, ← hc_digit, Int.mul_comm, ← Int.natCast_mul]
 generalize D x k * p = q
 show _ = (((_ + _) % 4294967296 : Nat) : Int); omega
theorem unshift (z L i : Nat) (hL : L < 32) : D z i = D (z * 2 ^ L) i / 2 ^ L + D (z * 2 ^ L) (i + 1) * 2 ^ (32 - L) % B32 ∧
  D (z * 2 ^ L) i / 2 ^ L < 2 ^ (32 - L) ∧ D (z * 2 ^ L) (i + 1) * 2 ^ (32 - L) % B32 % 2 ^ (32 - L) = 0 := by
 have hp : 0 < 2 ^ L := Nat.pow_pos (by decide)
 have hB : B32 = 2 ^ (32 - L) * 2 ^ L := by rw [← Nat.pow_add, show 32 - L + L = 32 by omega]; rfl
 have h1 : D (z * 2 ^ L) i / 2 ^ L < 2 ^ (32 - L) := by
  rw [Nat.div_lt_iff_lt_mul hp, ← hB]; exact D_lt _ _
 have h3 : D (z * 2 ^ L) (i + 1) * 2 ^ (32 - L) % B32 % 2 ^ (32 - L) = 0 := by
  rw [hB, Nat.mod_mul_right_mod, Nat.mul_mod_left]
 refine ⟨?_, h1, h3⟩
 have e1 : z / B32 ^ i = z * 2 ^ L / B32 ^ i / 2 ^ L := by
  rw [Nat.div_div_eq_div_mul, Nat.mul_div_mul_right _ _ hp]
 have e2 : z * 2 ^ L / B32 ^ i = z * 2 ^ L / B32 ^ (i + 1) * B32 + D (z * 2 ^ L) i := div_step _ _
 have e3 := div_step (z * 2 ^ L) (i + 1)
 rw [show D z i = z / B32 ^ i % B32 from rfl, e1, e2]
 rw [show z * 2 ^ L / B32 ^ (i + 1) * B32 = z * 2 ^ L / B32 ^ (i + 1) * 2 ^ (32 - L) * 2 ^ L by rw [hB, Nat.mul_assoc]]
 rw [Nat.mul_comm _ (2 ^ L), Nat.mul_add_div hp, e3, Nat.add_mul, Nat.mul_assoc, Nat.mul_comm B32, ← Nat.mul_assoc, Nat.add_assoc, Nat.mul_add_mod_self_right]
 generalize D (z * 2 ^ L) (i + 1) * 2 ^ (32 - L) = b at *
 generalize D (z * 2 ^ L) i / 2 ^ L = a at *
 rw [Nat.add_mod, Nat.mod_eq_of_lt (a := a) (by
  have : 2 ^ (32 - L) * 1 ≤ 2 ^ (32 - L) * 2 ^ L := Nat.mul_le_mul_left _ hp
  omega)]
 rw [Nat.mod_eq_of_lt, Nat.add_comm]
 have h5 : b % B32 < B32 := Nat.mod_lt _ B32_pos
 have h6 : b % B32 + 2 ^ (32 - L) ≤ B32 := by
  obtain ⟨q, hq⟩ := Nat.dvd_of_mod_eq_zero h3
  rw [hq] at h5 ⊢
  rw [hB] at h5 ⊢
  have h7 : q < 2 ^ L := Nat.lt_of_mul_lt_mul_left h5
  have h8 : 2 ^ (32 - L) * (q + 1) ≤ 2 ^ (32 - L) * 2 ^ L := Nat.mul_le_mul_left _ h7
  rw [Nat.mul_add, Nat.mul_one] at h8
  exact h8
 omega
end Go.Proofs.Gv
namespace Go.Proofs.Gv
open Go Go.RowKit
structure DivMem (w wr : World) (gv gq n M K : Nat) (f h : Nat → Nat) (Y : Nat) : Prop where
 u : wr.rowIs w.heap.size 74 n (u32s f)
 v : wr.rowIs gv 74 (M + 1) (u32s (D Y))
 q : wr.rowIs gq 74 K (u32s h)
 b : Below w.heap.size w wr
 l1 : w.heap.size < gv
 l2 : gv < gq
section
variable {w wr : World} {gv gq n M K : Nat} {f f' h h' : Nat → Nat} {Y : Nat}
theorem DivMem.dr {wr' : World} (m : DivMem w wr gv gq n M K f h Y) (hd : Dr wr wr') : DivMem w wr' gv gq n M K f h Y := by
 obtain ⟨k, rfl⟩ := hd
 exact ⟨m.u, m.v, m.q, m.b.trans (Below.dr (Dr.of _ _)), m.l1, m.l2⟩
theorem DivMem.congr (m : DivMem w wr gv gq n M K f h Y) (e : ∀ i, i < n → f i = f' i) : DivMem w wr gv gq n M K f' h Y :=
 ⟨m.u.congr fun i hi => by unfold u32s; rw [e i hi], m.v, m.q, m.b, m.l1, m.l2⟩
theorem DivMem.setU (m : DivMem w wr gv gq n M K f h Y) (i : Nat) (u : Value) (hr : (wr.setCell ⟨w.heap.size, i, none⟩ u).rowIs w.heap.size 74 n (u32s f')) :
  DivMem w (wr.setCell ⟨w.heap.size, i, none⟩ u) gv gq n M K f' h Y :=
 ⟨hr, m.v.setOther (a := ⟨w.heap.size, i, none⟩) (by have := m.l1; show gv ≠ w.heap.size; omega) u, m.q.setOther (a := ⟨w.heap.size, i, none⟩) (by have := m.l1; have := m.l2; show gq ≠ w.heap.size; omega) u,
  m.b.setCell (p := ⟨w.heap.size, i, none⟩) (Nat.le_refl _) u, m.l1, m.l2⟩
theorem DivMem.setQ (m : DivMem w wr gv gq n M K f h Y) (i : Nat) (u : Value) (hr : (wr.setCell ⟨gq, i, none⟩ u).rowIs gq 74 K (u32s h')) :
  DivMem w (wr.setCell ⟨gq, i, none⟩ u) gv gq n M K f h' Y :=
 ⟨m.u.setOther (a := ⟨gq, i, none⟩) (by have := m.l1; have := m.l2; show w.heap.size ≠ gq; omega) u, m.v.setOther (a := ⟨gq, i, none⟩) (by have := m.l2; show gv ≠ gq; omega) u, hr,
  m.b.setCell (p := ⟨gq, i, none⟩) (by have := m.l1; have := m.l2; show w.heap.size ≤ gq; omega) u, m.l1, m.l2⟩
end
section
variable {Y W M T g r : Nat}
theorem wtop_eq (hM : 2 ≤ M) (hT : T = D W M * B32 + D W (M - 1)) : wtop W (M - 2) = T := by
 unfold wtop
 rw [hT, show M - 2 + 2 = M by omega, show M - 2 + 1 = M - 1 by omega]
theorem guess_start (h : Pair Y W (M - 2)) (hM : 2 ≤ M) (hT : T = D W M * B32 + D W (M - 1)) : Guess Y W (M - 2) T (T / D Y (M - 1)) (T % D Y (M - 1)) := by
 have := Guess.start h
 rwa [wtop_eq hM hT, show M - 2 + 1 = M - 1 by omega] at this
theorem guess_next (h : Pair Y W (M - 2)) (hM : 2 ≤ M) (hT : T = D W M * B32 + D W (M - 1)) (k : Guess Y W (M - 2) T g r) (ht : B32 ≤ g ∨ r * B32 + D W (M - 2) < g * D Y (M - 2)) :
  1 ≤ g ∧ T = (g - 1) * D Y (M - 1) + (r + D Y (M - 1)) ∧ W / Y ≤ g - 1 ∧ g - 1 ≤ B32 := by
 rw [← wtop_eq hM hT] at k ⊢
 have := k.next h ht
 rwa [show M - 2 + 1 = M - 1 by omega] at this
theorem guess_test (h : Pair Y W (M - 2)) (hM : 2 ≤ M) (hT : T = D W M * B32 + D W (M - 1)) (k : Guess Y W (M - 2) T g r) (hg : g < B32) (ht : g * D Y (M - 2) ≤ r * B32 + D W (M - 2)) : g * Y ≤ W + Y := by
 rw [← wtop_eq hM hT] at k
 exact k.endTest h hg ht
theorem guess_break (h : Pair Y W (M - 2)) (hM : 2 ≤ M) (hT : T = D W M * B32 + D W (M - 1)) (hk : T = g * D Y (M - 1) + r) (hg : g ≤ B32) (hr : B32 ≤ r) : g * Y ≤ W + Y := by
 refine guess_endBreak (g := g) (r := r) h ?_ hg hr
 rw [wtop_eq hM hT, hk, show M - 2 + 1 = M - 1 by omega]
theorem guess_again (hM : 2 ≤ M) (h : T = g * D Y (M - 1) + r) (h1 : W / Y ≤ g) (h2 : g ≤ B32) (h3 : r < B32) : Guess Y W (M - 2) T g r :=
 ⟨by rw [h, show M - 2 + 1 = M - 1 by omega], h1, by omega, h3⟩
end
theorem DivMem.stepU {w wr : World} {gv gq n M K : Nat} {F G h : Nat → Nat} {Y : Nat} {i : Nat} {V : Int} (m : DivMem w wr gv gq n M K (fun j => if j < i then F j else G j) h Y) (hv : V = (F i : Nat)) :
  DivMem w (wr.setCell ⟨w.heap.size, i, none⟩ (.int .u32 V)) gv gq n M K (fun j => if j < i + 1 then F j else G j) h Y :=
 m.setU i _ (row_step m.u hv)
theorem DivMem.stepQ {w wr : World} {gv gq n M K : Nat} {F G f : Nat → Nat} {Y : Nat} {i : Nat} {V : Int} (m : DivMem w wr gv gq n M K f (fun j => if i + 1 ≤ j then F j else G j) Y) (hv : V = (F i : Nat)) :
  DivMem w (wr.setCell ⟨gq, i, none⟩ (.int .u32 V)) gv gq n M K f (fun j => if i ≤ j then F j else G j) Y :=
 m.setQ i _ (row_down m.q hv)
theorem mod_of_neg {d e : Int} (h : d + 4294967296 = e) (h0 : 0 ≤ e) (h1 : e < 4294967296) : d % 4294967296 = e := by omega
structure TailMem (w wr : World) (gq gr n M K : Nat) (f h r : Nat → Nat) : Prop where
 u : wr.rowIs w.heap.size 74 n (u32s f)
 q : wr.rowIs gq 74 K (u32s h)
 r : wr.rowIs gr 74 M (u32s r)
 b : Below w.heap.size w wr
 l1 : w.heap.size < gq
 l2 : gq < gr
theorem TailMem.dr {w wr wr' : World} {gq gr n M K : Nat} {f h r : Nat → Nat} (m : TailMem w wr gq gr n M K f h r) (hd : Dr wr wr') : TailMem w wr' gq gr n M K f h r := by
 obtain ⟨k, rfl⟩ := hd
 exact ⟨m.u, m.q, m.r, m.b.trans (Below.dr (Dr.of _ _)), m.l1, m.l2⟩
theorem TailMem.setR {w wr : World} {gq gr n M K : Nat} {f h r r' : Nat → Nat} (m : TailMem w wr gq gr n M K f h r) (i : Nat) (u : Value) (hr : (wr.setCell ⟨gr, i, none⟩ u).rowIs gr 74 M (u32s r')) :
  TailMem w (wr.setCell ⟨gr, i, none⟩ u) gq gr n M K f h r' :=
 ⟨m.u.setOther (a := ⟨gr, i, none⟩) (by have := m.l1; have := m.l2; show w.heap.size ≠ gr; omega) u, m.q.setOther (a := ⟨gr, i, none⟩) (by have := m.l2; show gq ≠ gr; omega) u, hr,
  m.b.setCell (p := ⟨gr, i, none⟩) (by have := m.l1; have := m.l2; show w.heap.size ≤ gr; omega) u, m.l1, m.l2⟩
theorem TailMem.setR2 {w wr : World} {gq gr n M K : Nat} {f h r r' : Nat → Nat} (m : TailMem w wr gq gr n M K f h r) (i : Nat) (u u' : Value) (hr : ((wr.setCell ⟨gr, i, none⟩ u).setCell ⟨gr, i, none⟩ u').rowIs gr 74 M (u32s r')) :
  TailMem w ((wr.setCell ⟨gr, i, none⟩ u).setCell ⟨gr, i, none⟩ u') gq gr n M K f h r' :=
 ⟨(m.u.setOther (a := ⟨gr, i, none⟩) (by have := m.l1; have := m.l2; show w.heap.size ≠ gr; omega) u).setOther (a := ⟨gr, i, none⟩) (by have := m.l1; have := m.l2; show w.heap.size ≠ gr; omega) u',
  (m.q.setOther (a := ⟨gr, i, none⟩) (by have := m.l2; show gq ≠ gr; omega) u).setOther (a := ⟨gr, i, none⟩) (by have := m.l2; show gq ≠ gr; omega) u', hr,
  (m.b.setCell (p := ⟨gr, i, none⟩) (by have := m.l1; have := m.l2; show w.heap.size ≤ gr; omega) u).setCell (p := ⟨gr, i, none⟩) (by have := m.l1; have := m.l2; show w.heap.size ≤ gr; omega) u', m.l1, m.l2⟩
theorem row_again {w : World} {g t n k : Nat} {F G : Nat → Nat} {V V' : Int} (h : w.rowIs g t n (u32s fun j => if j < k then F j else G j)) (hv : V' = (F k : Nat)) :
  ((w.setCell ⟨g, k, none⟩ (.int .u32 V)).setCell ⟨g, k, none⟩ (.int .u32 V')).rowIs g t n (u32s fun j => if j < k + 1 then F j else G j) := by
 subst hv
 refine ((h.set k _).set k _).congr fun i _ => ?_
 unfold u32s
 dsimp only
 by_cases e : i = k
 ·subst e; simp
 ·rw [if_neg e, if_neg e]
  by_cases e2 : i < k
  ·rw [if_pos e2, if_pos (by omega)]
  ·rw [if_neg e2, if_neg (by omega)]
theorem unshift_or {z L t : Nat} (hL : L < 32) : bits .or .u32 ((D (z * 2 ^ L) t : Int) / 2 ^ L) ((D (z * 2 ^ L) (t + 1) : Int) * 2 ^ (32 - L) % 4294967296) = (D z t : Nat) := by
 obtain ⟨h1, h2, h3⟩ := unshift z L t hL
 have e1 : (D (z * 2 ^ L) t : Int) / 2 ^ L = ((D (z * 2 ^ L) t / 2 ^ L : Nat) : Int) := by simp
 have e2 : (D (z * 2 ^ L) (t + 1) : Int) * 2 ^ (32 - L) % 4294967296 = ((D (z * 2 ^ L) (t + 1) * 2 ^ (32 - L) % B32 : Nat) : Int) := by
  rw [show B32 = 4294967296 from rfl]; simp
 have hle : 2 ^ (32 - L) ≤ 2 ^ 32 := Nat.pow_le_pow_right (by decide) (by omega)
 have g1 : D (z * 2 ^ L) t / 2 ^ L < 4294967296 := by omega
 have g2 : D (z * 2 ^ L) (t + 1) * 2 ^ (32 - L) % B32 < 4294967296 := Nat.mod_lt _ B32_pos
 rw [e1, e2, u32_or_nat _ _ g1 g2, Nat.or_comm, nat_join (32 - L) _ _ h3 h2, h1, Nat.add_comm]
theorem unshift_zero {z L t : Nat} (hL : ¬ 0 < L) : (D (z * 2 ^ L) t : Int) / 2 ^ L = (D z t : Nat) := by
 obtain rfl : L = 0 := by omega
 simp
end Go.Proofs.Gv
