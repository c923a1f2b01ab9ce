/- integer.Sub, Compare: what they compute. -/
import Derived.Test.YtpdanbnfommbhaaIntB
import Derived.Test.YtpdanbnfommbhaaIntNegP
import Derived.Test.YtpdanbnfommbhaaDivMathP
import Derived.Test.YtpdanbnfommbhaaDivideP
set_option linter.unusedSimpArgs false
set_option linter.unusedVariables false
namespace Go.Proofs.Gv
open Go Go.RowKit

theorem mg_size_iv (na : Bool) (sa : ByteArray) : (mg (iv na sa).natAbs).size ≤ sa.size := size_mg (iv_lt na sa)
theorem mg_size_neg (na : Bool) (sa : ByteArray) : (mg (-iv na sa).natAbs).size ≤ sa.size := by rw [Int.natAbs_neg]; exact mg_size_iv na sa

set_option maxHeartbeats 1600000 in
theorem Sub_any (na nb : Bool) (sa sb : ByteArray) (w : World) (ha : sa.size ≤ 15000000) (hb : sb.size ≤ 15000000) :
    Calls Try.prog 43 #[.agg #[.bool na, .string sa], .agg #[.bool nb, .string sb]] w (RetI w (iv na sa - iv nb sb)) := by
  have L1 := mg_size_neg nb sb
  obtain ⟨z, hz⟩ : ∃ z, iv na sa - iv nb sb = z := ⟨_, rfl⟩
  rw [hz]
  obtain ⟨q, hq⟩ : ∃ q, -iv nb sb = q := ⟨_, rfl⟩
  have HN : Hid (∀ w', Calls Try.prog 62 #[.agg #[.bool nb, .string sb]] w' (RetI w' q)) := fun w' => by rw [← hq]; exact Neg_any nb sb w' (by omega)
  rw [hq] at L1
  have HA : Hid (∀ w', Calls Try.prog 15 #[.agg #[.bool na, .string sa], .agg #[.bool (sgn q), .string (mg q.natAbs)]] w' (RetI w' z)) := fun w' => by
    have := Add_any na (sgn q) sa (mg q.natAbs) w' (by omega) (by omega)
    rwa [iv_V, ← hq, ← Int.sub_eq_add_neg, hz, hq] at this
  clear hz hq
  go_enter Try.func43, Try.ntmps43
  go_wp2
  obtain ⟨W, hW⟩ : ∃ W, ((w.alloc (.cells #[.bool na, .string sa] 33)).alloc (.cells #[.bool nb, .string sb] 33)).alloc (.cells #[.bool false, .string ⟨#[]⟩] 33) = W := ⟨_, rfl⟩
  have HO := Lib.hid (Own.three w (.cells #[.bool na, .string sa] 33) (.cells #[.bool nb, .string sb] 33) (.cells #[.bool false, .string ⟨#[]⟩] 33))
  rw [hW] at HO ⊢
  clear hW
  obtain ⟨a0, a1, a2, a3, a4⟩ := HO.out.blk 0 w.heap.size rfl rfl
  obtain ⟨b0, b1, b2, b3, b4⟩ := HO.out.blk 1 (w.heap.size + 1) rfl rfl
  have ne1 : ¬ w.heap.size = w.heap.size + 1 + 1 := by omega
  have ne2 : ¬ w.heap.size + 1 + 1 = w.heap.size := by omega
  go_region_held3 (fun w' => w'.cell? ⟨w.heap.size, 0, none⟩ = some (.bool na) ∧ w'.cell? ⟨w.heap.size, 1, none⟩ = some (.string sa) ∧ w'.cell? ⟨w.heap.size + 1, 0, none⟩ = some (.bool nb) ∧ w'.cell? ⟨w.heap.size + 1, 1, none⟩ = some (.string sb)) (go_keep) (first
    | (go_at_call 62; refine (HN.out _).mono ?_; rintro e w1 ⟨rfl, hb⟩; have HO1 := Lib.hid (HO.out.next hb); obtain ⟨k0, k1, k2, k3, k4⟩ := HO1.out.blk 0 w.heap.size rfl rfl; obtain ⟨l0, l1, l2, l3, l4⟩ := HO1.out.blk 1 (w.heap.size + 1) rfl rfl; clear hb)
    | (go_at_call 15; refine (HA.out _).mono ?_; rintro e w2 ⟨rfl, hb⟩; have HO2 := Lib.hid (HO1.out.next hb); obtain ⟨m0, m1, m2, m3, m4⟩ := HO2.out.blk 0 w.heap.size rfl rfl; obtain ⟨n0, n1, n2, n3, n4⟩ := HO2.out.blk 1 (w.heap.size + 1) rfl rfl; obtain ⟨j0, j1, j2, j3, j4⟩ := HO2.out.blk 2 (w.heap.size + 1 + 1) rfl rfl; clear hb))
  all_goals go_wp2
  refine bodyPost_ret (v := .agg #[.bool (sgn z), .string (mg z.natAbs)]) (by simp [results, Try.results43, go_sem, j0, j1]) rfl ?_
  exact ⟨rfl, HO2.out.stored (w.heap.size + 1 + 1) (by omega) _ _⟩

/-- -1, 0 or 1. -/
def cmpI (a b : Int) : Int := if a < b then -1 else if b < a then 1 else 0
theorem cmpI_lt {a b : Int} (h : a < b) : cmpI a b = -1 := by simp [cmpI, h]
theorem cmpI_gt {a b : Int} (h : b < a) : cmpI a b = 1 := by unfold cmpI; rw [if_neg (by omega), if_pos h]
theorem cmpI_eq (a : Int) : cmpI a a = 0 := by simp [cmpI]

theorem mg_toList (n : Nat) : (mg n).toList = byt n := by rw [ByteArray.toList_eq]; exact mg_list n
theorem mg_empty : (mg 0).toList.isEmpty = true := by rw [mg_toList, byt_zero]; rfl
theorem mg_full {n : Nat} (h : n ≠ 0) : (mg n).toList.isEmpty = false := by
  rw [mg_toList]
  have := mt byt_eq_nil.1 h
  cases e : byt n with
  | nil => exact absurd e this
  | cons a l => rfl

set_option maxHeartbeats 1600000 in
theorem Compare_any (na nb : Bool) (sa sb : ByteArray) (w : World) (ha : sa.size ≤ 15000000) (hb : sb.size ≤ 15000000) :
    Calls Try.prog 19 #[.agg #[.bool na, .string sa], .agg #[.bool nb, .string sb]] w fun e w' => e = .returned (.int .i64 (cmpI (iv na sa) (iv nb sb))) ∧ Below w.heap.size w w' := by
  go_enter Try.func19, Try.ntmps19
  go_wp2_with fail
  have HO := Lib.hid (Own.two w (.cells #[.bool na, .string sa] 33) (.cells #[.bool nb, .string sb] 33))
  refine (Sub_any na nb sa sb _ ha hb).mono ?_
  rintro e w1 ⟨rfl, hb1⟩
  have HO1 := Lib.hid (HO.out.next hb1)
  clear hb1
  obtain ⟨d, hd⟩ : ∃ d, iv na sa - iv nb sb = d := ⟨_, rfl⟩
  have Hd := Lib.hid hd
  rw [hd]
  clear hd
  by_cases h1 : d < 0
  · have hs : sgn d = true := by unfold sgn; simpa using h1
    rw [hs]
    clear hs
    go_wp2
    go_ret
    exact ⟨by rw [cmpI_lt (by have := Hd.out; omega)]; rfl, HO1.out.below.alloc HO1.out.below.size _⟩
  · have hs : sgn d = false := by unfold sgn; simpa using h1
    rw [hs]
    clear hs
    by_cases h2 : d = 0
    · have he : (mg d.natAbs).toList.isEmpty = true := by rw [h2]; exact mg_empty
      have Hd2 := Lib.hid h2
      clear h2
      go_wp2
      go_ret
      exact ⟨by rw [show iv na sa = iv nb sb by have := Hd.out; have := Hd2.out; omega, cmpI_eq]; rfl, HO1.out.below.alloc HO1.out.below.size _⟩
    · have he : (mg d.natAbs).toList.isEmpty = false := mg_full (by omega)
      have h3 : 0 < d := by omega
      clear h2
      go_wp2
      go_ret
      exact ⟨by rw [cmpI_gt (by have := Hd.out; omega)]; rfl, HO1.out.below.alloc HO1.out.below.size _⟩
end Go.Proofs.Gv

namespace Go.Proofs.Gv

section
variable {X Y M k g : Nat}
/-- The number in u in front of the step k, and behind it with the window b. -/
def num (X k b : Nat) : Nat := join k (X % B32 ^ k) b
section
variable {W : Nat}
end
end

end Go.Proofs.Gv

namespace Go.Proofs.Gv
open Go Go.RowKit

/-- The three rows of a long division. -/
structure DivMem (w wr : World) (gv gq n M K : Nat) (f h : Nat → Nat) (Y : Nat) : Prop where
  u : wr.rowIs w.heap.size 66 n (u32s f)
  v : wr.rowIs gv 66 (M + 1) (u32s (D Y))
  q : wr.rowIs gq 66 K (u32s h)
  b : Below w.heap.size w wr
  l1 : w.heap.size < gv
  l2 : gv < gq
section
variable {w wr : World} {gv gq n M K : Nat} {f f' h h' : Nat → Nat} {Y : Nat}
theorem DivMem.congr (m : DivMem w wr gv gq n M K f h Y) (e : ∀ i, i < n → f i = f' i) : DivMem w wr gv gq n M K f' h Y :=
  ⟨m.u.congr fun i hi => by unfold u32s; rw [e i hi], m.v, m.q, m.b, m.l1, m.l2⟩
end

section
variable {Y W M T g r : Nat}
end
end Go.Proofs.Gv

namespace Go.Proofs.Gv
open Go Go.RowKit

/-- The bits of x. -/
def bl (x : Nat) : Nat := if nlen x = 0 then 0 else 32 * (nlen x - 1) + Lib.bitLen (D x (nlen x - 1))
theorem bl_zero : bl 0 = 0 := by simp [bl, nlen_zero]
theorem bl_spec {x : Nat} (h : x ≠ 0) : 0 < bl x ∧ 2 ^ (bl x - 1) ≤ x ∧ x < 2 ^ bl x := by
  have h0 : nlen x ≠ 0 := mt nlen_eq_zero.1 h
  obtain ⟨h1, h2⟩ := D_top h
  obtain ⟨a, b, c⟩ := bitLen_bounds 32 (D x (nlen x - 1)) (D_lt _ _) (by omega) (by omega)
  have e : bl x = 32 * (nlen x - 1) + Lib.bitLen (D x (nlen x - 1)) := by unfold bl; rw [if_neg h0]
  have hB : B32 ^ (nlen x - 1) = 2 ^ (32 * (nlen x - 1)) := by rw [Nat.pow_mul]; rfl
  have hle := Nat.div_mul_le_self x (B32 ^ (nlen x - 1))
  have hlt := Nat.lt_mul_div_succ x (pow_pos (nlen x - 1))
  rw [← h1] at hle hlt
  rw [e]
  refine ⟨by omega, ?_, ?_⟩
  · rw [show 32 * (nlen x - 1) + Lib.bitLen (D x (nlen x - 1)) - 1 = Lib.bitLen (D x (nlen x - 1)) - 1 + 32 * (nlen x - 1) by omega, Nat.pow_add, ← hB]
    exact Nat.le_trans (Nat.mul_le_mul_right _ b) hle
  · rw [Nat.pow_add, ← hB]
    exact Nat.lt_of_lt_of_le hlt (Nat.mul_le_mul_left _ c)
theorem bl_le_iff {x n : Nat} : bl x ≤ n ↔ x < 2 ^ n := by
  by_cases h : x = 0
  · subst h; rw [bl_zero]; simp [Nat.pow_pos]
  · obtain ⟨a, b, c⟩ := bl_spec h
    constructor
    · intro hn; exact Nat.lt_of_lt_of_le c (Nat.pow_le_pow_right (by decide) hn)
    · intro hn
      apply Classical.byContradiction
      intro hc
      have : 2 ^ n ≤ 2 ^ (bl x - 1) := Nat.pow_le_pow_right (by decide) (by omega)
      omega
theorem bl_bound (x : Nat) : bl x ≤ 32 * nlen x := by
  rw [bl_le_iff, Nat.pow_mul]
  exact lt_pow_nlen x
theorem nlen_bl (x : Nat) : 32 * nlen x ≤ bl x + 31 := by
  by_cases h : x = 0
  · subst h; rw [nlen_zero]; omega
  · have h0 : nlen x ≠ 0 := mt nlen_eq_zero.1 h
    unfold bl
    rw [if_neg h0]
    have := (D_top h).2
    obtain ⟨a, _, _⟩ := bitLen_bounds 32 (D x (nlen x - 1)) (D_lt _ _) (by omega) (by omega)
    omega

theorem len32_any (d : Nat) (w : World) (h : d < 4294967296) :
    Calls Try.prog 78 #[.int .u32 (d : Nat)] w fun e w' => e = .returned (.int .i64 (Lib.bitLen d : Nat)) ∧ w = w' := by
  refine (Try.bits_Len32 (d : Int) w (by omega) (by omega)).mono ?_
  rintro e w' ⟨rfl, rfl⟩
  exact ⟨by rw [Int.toNat_natCast], rfl⟩

set_option maxHeartbeats 400000 in
theorem length_any (A : Option Addr) (c x : Nat) (w : World) (hx : Nt w w.heap.size A c x) (hn : nlen x ≤ 10000000) :
    Calls Try.prog 69 #[.slice A (nlen x) c] w fun e w' => e = .returned (.int .i64 (bl x : Nat)) ∧ w = w' := by
  by_cases h0 : nlen x = 0
  · have e : bl x = 0 := by unfold bl; rw [if_pos h0]
    rw [h0, e]
    clear e h0
    go_enter Try.func69, Try.ntmps69
    go_wp2
    go_ret
    exact ⟨rfl, rfl⟩
  · obtain ⟨g, rfl, hg, hcell⟩ := hx.rd (by omega)
    have hc0 := hcell (nlen x - 1) (by omega)
    have hd := D_lt' x (nlen x - 1)
    have h1 : ((nlen x : Int) == 0) = false := by rw [beq_eq_false_iff_ne]; omega
    have hb : Lib.bitLen (D x (nlen x - 1)) ≤ 32 := Lib.bitLen_le _ 32 (by omega) hd
    have HE : Hid (bl x = 32 * (nlen x - 1) + Lib.bitLen (D x (nlen x - 1))) := by unfold Hid bl; rw [if_neg h0]
    clear hcell hx
    go_enter Try.func69, Try.ntmps69
    go_wp2_with fail
    refine (len32_any _ _ hd).mono ?_
    rintro e w' ⟨rfl, rfl⟩
    go_wp2
    go_ret
    refine ⟨?_, rfl⟩
    rw [HE.out]
    show Ending.returned (Value.int .i64 _) = _
    congr 2
    omega
end Go.Proofs.Gv
