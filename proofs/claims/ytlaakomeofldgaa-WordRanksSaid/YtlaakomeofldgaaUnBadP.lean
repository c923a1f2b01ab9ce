/- The reference implementation of integers at natural numbers. -/
import Derived.Test.YtlaakomeofldgaaRefAdd
import Derived.Test.YtlaakomeofldgaaCmpP
import Derived.Test.YtlaakomeofldgaaUnrank
namespace Go.Proofs.Gv
open Go Go.RowKit

theorem rpN {x M : Nat} (h : x < 2 ^ M) (hM : M ≤ 800000) : Rp false (mg x) x ∧ (mg x).size ≤ 100000 := by
  have hs : (mg x).size ≤ 100000 := Nat.le_trans (szB ((M + 7) / 8) (Nat.lt_of_lt_of_le h (Nat.pow_le_pow_right (by decide) (by omega)))) (by omega)
  exact ⟨⟨by unfold iv; simp [bv_mg], by omega⟩, hs⟩
theorem sgnN (x : Nat) : sgn (x : Int) = false := decide_eq_false (by omega)
theorem rMulN {x y M : Nat} (hx : x < 2 ^ M) (hy : y < 2 ^ M) (hM : M ≤ 800000) (X : World) :
    Calls Try.prog 65 #[.agg #[.bool false, .string (mg x)], .agg #[.bool false, .string (mg y)]] X fun e w' => e = .returned (.agg #[.bool false, .string (mg (x * y))]) ∧ Below X.heap.size X w' := by
  have := rMul_any _ _ _ _ (x : Int) (y : Int) X (rpN hx hM).1 (rpN hy hM).1 (rpN hx hM).2 (rpN hy hM).2
  unfold RetI at this
  rwa [← Int.natCast_mul, sgnN, Int.natAbs_natCast] at this
theorem rAddN {x y M : Nat} (hx : x < 2 ^ M) (hy : y < 2 ^ M) (hM : M ≤ 800000) (X : World) :
    Calls Try.prog 64 #[.agg #[.bool false, .string (mg x)], .agg #[.bool false, .string (mg y)]] X fun e w' => e = .returned (.agg #[.bool false, .string (mg (x + y))]) ∧ Below X.heap.size X w' := by
  have := rAdd_any _ _ _ _ (x : Int) (y : Int) X (rpN hx hM).1 (rpN hy hM).1 (rpN hx hM).2 (rpN hy hM).2
  unfold RetI at this
  rwa [← Int.natCast_add, sgnN, Int.natAbs_natCast] at this
end Go.Proofs.Gv

namespace Go.Proofs.Gv
open Go Go.RowKit

/-- The errors of Unrank. -/
def UE (q n : Int) (na : Bool) (sa : ByteArray) (c : Int) : Prop :=
  (¬ (1 ≤ q ∧ q ≤ 16) ∧ c = 12) ∨ ((1 ≤ q ∧ q ≤ 16) ∧ n < 0 ∧ c = 2) ∨ ((1 ≤ q ∧ q ≤ 16) ∧ 65536 < n ∧ c = 4) ∨ ((1 ≤ q ∧ q ≤ 16) ∧ (0 ≤ n ∧ n ≤ 65536) ∧ ckV na sa = 1 ∧ c = 1) ∨
  ((1 ≤ q ∧ q ≤ 16) ∧ (0 ≤ n ∧ n ≤ 65536) ∧ ckV na sa = 0 ∧ na = true ∧ c = 2)
theorem ckV_ways (na : Bool) (sa : ByteArray) : ckV na sa = 0 ∨ ckV na sa = 1 := by
  unfold ckV
  split
  · exact .inl rfl
  · exact .inr rfl
theorem ckV_zero {na : Bool} {sa : ByteArray} (h : ckV na sa = 0) : na = sgn (iv na sa) ∧ sa = mg (iv na sa).natAbs := by
  unfold ckV at h
  split at h
  · rename_i h1
    exact eqI_iff.mp h1
  · cases h
/-- The ways of Unrank. -/
theorem ue_ways (q n : Int) (na : Bool) (sa : ByteArray) : (∃ c, UE q n na sa c) ∨ ∃ Q N A : Nat, q = Q ∧ n = N ∧ 1 ≤ Q ∧ Q ≤ 16 ∧ N ≤ 65536 ∧ na = false ∧ sa = mg A := by
  by_cases h1 : 1 ≤ q ∧ q ≤ 16
  · by_cases h2 : n < 0
    · exact .inl ⟨2, .inr (.inl ⟨h1, h2, rfl⟩)⟩
    · by_cases h3 : 65536 < n
      · exact .inl ⟨4, .inr (.inr (.inl ⟨h1, h3, rfl⟩))⟩
      · rcases ckV_ways na sa with h4 | h4
        · cases na
          · obtain ⟨e1, e2⟩ := ckV_zero h4
            exact .inr ⟨q.toNat, n.toNat, (iv false sa).natAbs, by omega, by omega, by omega, by omega, by omega, rfl, e2⟩
          · exact .inl ⟨2, .inr (.inr (.inr (.inr ⟨h1, ⟨by omega, by omega⟩, h4, rfl, rfl⟩)))⟩
        · exact .inl ⟨1, .inr (.inr (.inr (.inl ⟨h1, ⟨by omega, by omega⟩, h4, rfl⟩)))⟩
  · exact .inl ⟨12, .inl ⟨h1, rfl⟩⟩

set_option maxRecDepth 100000 in
set_option maxHeartbeats 4000000 in
theorem Un_bad (q n : Int) (na : Bool) (sa : ByteArray) (c : Int) (w : World) (hs : sa.size ≤ 90000) (h : UE q n na sa c) :
    Calls Try.prog 42 #[.int .i64 q, .int .i64 n, .agg #[.bool na, .string sa]] w fun e w' => e = .returned (.tuple #[.string ⟨#[]⟩, .int .i64 c]) ∧ Below w.heap.size w w' := by
  have HB0 := Lib.hid (Bx.new w w.heap.size na sa rfl)
  have HL0 := Lib.hid ((Below.refl w.heap.size w).alloc (Nat.le_refl _) (.cells #[.bool na, .string sa] 49))
  have HCk := Lib.hid (fun W => cCheckV na sa (by omega) W)
  rcases h with ⟨h1, rfl⟩ | ⟨⟨q1, q2⟩, h2, rfl⟩ | ⟨⟨q1, q2⟩, h2, rfl⟩ | ⟨⟨q1, q2⟩, ⟨n1, n2⟩, h3, rfl⟩ | ⟨⟨q1, q2⟩, ⟨n1, n2⟩, h3, rfl, rfl⟩
  · have HK := Lib.hid (fun W => known_no q W h1)
    clear h1
    go_enter Try.func42, Try.ntmps42
    go_wp2_with (go_at_call 59; refine (HK.out _).mono ?_; rintro e w0 ⟨rfl, rfl⟩)
    go_ret2
    exact ⟨rfl, HL0.out⟩
  · go_enter Try.func42, Try.ntmps42
    go_wp2_with (go_at_call 59; refine (known_ok _ _ q1 q2).mono ?_; rintro e w0 ⟨rfl, rfl⟩)
    go_ret2
    exact ⟨rfl, HL0.out⟩
  · go_enter Try.func42, Try.ntmps42
    go_wp2_with (go_at_call 59; refine (known_ok _ _ q1 q2).mono ?_; rintro e w0 ⟨rfl, rfl⟩)
    go_ret2
    exact ⟨rfl, HL0.out⟩
  · rw [h3] at HCk
    clear h3
    obtain ⟨x0, x1, x2, x3, _⟩ := id HB0.out
    go_enter Try.func42, Try.ntmps42
    go_wp2_with (first
      | (go_at_call 59; refine (known_ok _ _ q1 q2).mono ?_; rintro e w0 ⟨rfl, rfl⟩)
      | (go_at_call 67; refine (HCk.out _).mono ?_; rintro e w1 ⟨rfl, hb⟩; have HL1 := Lib.hid (bstep HL0.out hb); clear hb))
    go_ret2
    exact ⟨rfl, HL1.out⟩
  · rw [h3] at HCk
    clear h3
    obtain ⟨x0, x1, x2, x3, _⟩ := id HB0.out
    go_enter Try.func42, Try.ntmps42
    go_wp2_with (first
      | (go_at_call 59; refine (known_ok _ _ q1 q2).mono ?_; rintro e w0 ⟨rfl, rfl⟩)
      | (go_at_call 67; refine (HCk.out _).mono ?_; rintro e w1 ⟨rfl, hb⟩; have HB1 := Lib.hid (HB0.out.below hb); have HL1 := Lib.hid (bstep HL0.out hb); clear hb x0 x1 x2 x3; obtain ⟨x0, x1, x2, x3, _⟩ := id HB1.out))
    go_ret2
    exact ⟨rfl, HL1.out⟩

set_option maxRecDepth 100000 in
set_option maxHeartbeats 4000000 in
theorem rUn_bad (q n : Int) (na : Bool) (sa : ByteArray) (c : Int) (w : World) (hs : sa.size ≤ 90000) (h : UE q n na sa c) :
    Calls Try.prog 43 #[.int .i64 q, .int .i64 n, .agg #[.bool na, .string sa]] w fun e w' => e = .returned (.tuple #[.string ⟨#[]⟩, .int .i64 c]) ∧ Below w.heap.size w w' := by
  have HB0 := Lib.hid (Bx.new w w.heap.size na sa rfl)
  have HL0 := Lib.hid ((Below.refl w.heap.size w).alloc (Nat.le_refl _) (.cells #[.bool na, .string sa] 49))
  have HCk := Lib.hid (fun W => rCheck_any na sa W (by omega))
  have q34 : (1 ≤ q ∧ q ≤ 16) → decide (q < 1) = false ∧ decide (16 < q) = false := fun h => ⟨decide_eq_false (by omega), decide_eq_false (by omega)⟩
  rcases h with ⟨h1, rfl⟩ | ⟨h0, h2, rfl⟩ | ⟨h0, h2, rfl⟩ | ⟨h0, ⟨n1, n2⟩, h3, rfl⟩ | ⟨h0, ⟨n1, n2⟩, h3, rfl, rfl⟩
  · have hw : decide (q < 1) = true ∨ (decide (q < 1) = false ∧ decide (16 < q) = true) := by
      by_cases h : q < 1
      · exact .inl (decide_eq_true h)
      · exact .inr ⟨decide_eq_false h, decide_eq_true (by omega)⟩
    clear h1 q34
    rcases hw with t1 | ⟨t1, t2⟩
    all_goals (
      go_enter Try.func43, Try.ntmps43
      go_wp2
      go_ret2
      exact ⟨rfl, HL0.out⟩)
  · obtain ⟨t1, t2⟩ := q34 h0
    clear q34 h0
    go_enter Try.func43, Try.ntmps43
    go_wp2
    go_ret2
    exact ⟨rfl, HL0.out⟩
  · obtain ⟨t1, t2⟩ := q34 h0
    clear q34 h0
    go_enter Try.func43, Try.ntmps43
    go_wp2
    go_ret2
    exact ⟨rfl, HL0.out⟩
  · obtain ⟨t1, t2⟩ := q34 h0
    rw [h3] at HCk
    clear q34 h0 h3
    obtain ⟨x0, x1, x2, x3, _⟩ := id HB0.out
    go_enter Try.func43, Try.ntmps43
    go_wp2_with (go_at_call 70; refine (HCk.out _).mono ?_; rintro e w1 ⟨rfl, hb⟩; have HL1 := Lib.hid (bstep HL0.out hb); clear hb)
    go_ret2
    exact ⟨rfl, HL1.out⟩
  · obtain ⟨t1, t2⟩ := q34 h0
    have hneg : iv true sa < 0 := by
      have h := (ckV_zero h3).1
      exact of_decide_eq_true h.symm
    have HCp := Lib.hid (fun W => show Calls Try.prog 71 #[.agg #[.bool true, .string sa], .agg #[.bool false, .string ⟨#[]⟩]] W (fun e w' => e = .returned (.int .i64 (-1)) ∧ Below W.heap.size W w') from by
      have := rCompare_any true false sa ⟨#[]⟩ (iv true sa) 0 W ⟨rfl, by omega⟩ Rp.zero
      rwa [cmpI_lt hneg] at this)
    rw [h3] at HCk
    clear q34 h0 h3 hneg
    obtain ⟨x0, x1, x2, x3, _⟩ := id HB0.out
    go_enter Try.func43, Try.ntmps43
    go_wp2_with (first
      | (go_at_call 70; refine (HCk.out _).mono ?_; rintro e w1 ⟨rfl, hb⟩; have HB1 := Lib.hid (HB0.out.below hb); have HL1 := Lib.hid (bstep HL0.out hb); clear hb x0 x1 x2 x3; obtain ⟨x0, x1, x2, x3, _⟩ := id HB1.out)
      | (go_at_call 71; refine (HCp.out _).mono ?_; rintro e w2 ⟨rfl, hb⟩; have HL2 := Lib.hid (bstep HL1.out hb); clear hb))
    go_ret2
    exact ⟨rfl, HL2.out⟩
end Go.Proofs.Gv
