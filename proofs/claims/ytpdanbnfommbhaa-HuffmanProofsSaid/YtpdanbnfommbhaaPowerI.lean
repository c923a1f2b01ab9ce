/- integer.Power. -/
import Derived.Test.YtpdanbnfommbhaaPower
import Derived.Test.YtpdanbnfommbhaaIntNegP
set_option linter.unusedSimpArgs false
set_option linter.unusedVariables false
namespace Go.Proofs.Gv
open Go Go.RowKit

/-- An integer and an error number come back. -/
def RetIE (w : World) (z e0 : Int) (e : Ending) (w' : World) : Prop := e = .returned (.tuple #[.agg #[.bool (sgn z), .string (mg z.natAbs)], .int .i64 e0]) ∧ Below w.heap.size w w'
/-- What Power answers. -/
def powE (z n : Int) : Int := if n < 0 ∨ 4096 < n then 2 else if 65536 < n.toNat * bl z.natAbs then 4 else 0
def powV (z n : Int) : Int := if powE z n = 0 then z ^ n.toNat else 0

theorem pow_sign (na : Bool) (x n : Nat) : (if na then -(x : Int) else x) ^ n = if (na && decide (n % 2 = 1)) then -((x ^ n : Nat) : Int) else ((x ^ n : Nat) : Int) := by
  cases na
  · simp
  · simp only [if_true, Bool.true_and, decide_eq_true_eq]
    rw [Int.neg_pow]
    by_cases h : n % 2 = 1
    · rw [if_pos h, h, Int.pow_one]; simp
    · rw [if_neg h, show n % 2 = 0 by omega, Int.pow_zero]; simp

set_option maxRecDepth 100000 in
set_option maxHeartbeats 1600000 in
theorem Power_any (na : Bool) (sa : ByteArray) (n : Int) (w : World) (ha : sa.size ≤ 15000000) (hn1 : -9223372036854775808 ≤ n) (hn2 : n < 9223372036854775808) :
    Calls Try.prog 55 #[.agg #[.bool na, .string sa], .int .i64 n] w (RetIE w (powV (iv na sa) n) (powE (iv na sa) n)) := by
  have hz0 : mg (0 : Int).natAbs = ⟨#[]⟩ := mg_zero
  by_cases hr : n < 0 ∨ 4096 < n
  · have he : powE (iv na sa) n = 2 := by unfold powE; rw [if_pos hr]
    have hv : powV (iv na sa) n = 0 := by unfold powV; rw [he]; rfl
    rw [he, hv]
    unfold RetIE
    rw [hz0]
    clear he hv
    rcases hr with h | h
    all_goals
      go_enter Try.func55, Try.ntmps55
      go_wp2
      refine bodyPost_ret (v := .tuple #[.agg #[.bool false, .string ⟨#[]⟩], .int .i64 2]) (by simp [results, Try.results55, go_sem]) rfl ?_
      refine ⟨rfl, ?_⟩
      have hO := Own.two w (.cells #[.bool na, .string sa] 33) (.cells #[.bool false, .string ⟨#[]⟩] 33)
      exact hO.below
  · have l1 := nlen_bv (s := sa)
    obtain ⟨x, hx⟩ : ∃ x, bv sa.data.toList = x := ⟨_, rfl⟩
    have hiv : iv na sa = if na then -(x : Int) else x := by unfold iv; rw [hx]
    have habs : (iv na sa).natAbs = x := by rw [iv_abs, hx]
    have HD := Lib.hid (fun W => hx ▸ digits_any na sa W (by omega) : ∀ W, Calls Try.prog 37 #[.agg #[.bool na, .string sa]] W (RetNat W x))
    rw [hx] at l1
    obtain ⟨k, rfl⟩ : ∃ k : Nat, n = k := ⟨n.toNat, by omega⟩
    have hk : k ≤ 4096 := by omega
    clear hn1 hn2
    have hbl := bl_bound x
    have hbn := nlen_bl x
    have HE := Lib.hid (show powE (iv na sa) k = if 65536 < k * bl x then 4 else 0 by unfold powE; rw [if_neg hr, habs]; rfl)
    have HP := Lib.hid (show iv na sa ^ k = if (na && decide (k % 2 = 1)) then -((x ^ k : Nat) : Int) else ((x ^ k : Nat) : Int) by rw [hiv]; exact pow_sign na x k)
    have t1 : ¬ (k : Int) < 0 := by omega
    have t2 : ¬ (4096 : Int) < k := by omega
    clear hr hiv habs hx
    obtain ⟨b, hb⟩ : ∃ b, bl x = b := ⟨_, rfl⟩
    rw [hb] at hbl hbn HE
    have HLn := Lib.hid (fun A c W h1 h2 => hb ▸ length_any A c x W h1 h2 : ∀ A c W, Nt W W.heap.size A c x → nlen x ≤ 10000000 → Calls Try.prog 69 #[.slice A (nlen x) c] W fun e w' => e = .returned (.int .i64 (b : Nat)) ∧ W = w')
    clear hb
    have hO := Lib.hid (Own.two w (.cells #[.bool na, .string sa] 33) (.cells #[.bool false, .string ⟨#[]⟩] 33))
    have hm : 0 ≤ (k : Int) * b ∧ (k : Int) * b ≤ 9000000000000 := by
      constructor
      · exact Int.mul_nonneg (by omega) (by omega)
      · have : k * b ≤ 4096 * 2000000000 := Nat.mul_le_mul hk (by omega)
        have h2 : ((k * b : Nat) : Int) = (k : Int) * b := by simp
        omega
    obtain ⟨hm1, hm2⟩ := hm
    by_cases hlim : 65536 < k * b
    · have t3 : (65536 : Int) < (k : Int) * b := by
        have h2 : ((k * b : Nat) : Int) = (k : Int) * b := by simp
        omega
      have he : powE (iv na sa) k = 4 := by rw [HE.out, if_pos hlim]
      have hv : powV (iv na sa) k = 0 := by unfold powV; rw [he]; rfl
      rw [he, hv]
      unfold RetIE
      rw [hz0]
      clear he hv hlim
      go_enter Try.func55, Try.ntmps55
      obtain ⟨q, hq⟩ : ∃ q : Int, (k : Int) * b = q := ⟨_, rfl⟩
      rw [hq] at hm1 hm2 t3
      have HQ := Lib.hid hq
      clear hq
      go_wp2_with fail
      refine (HD.out _).mono ?_
      rintro e w1 ⟨A, c, rfl, hn, hb⟩
      have HO1 := Lib.hid (hO.out.next hb)
      have HN1 := Lib.hid hn
      obtain ⟨a0, a1, a2, a3, a4⟩ := HO1.out.blk 1 (w.heap.size + 1) rfl rfl
      clear hb hn
      go_wp2_with fail
      refine (HLn.out A c _ HN1.out (by omega)).mono ?_
      rintro e w2 ⟨rfl, rfl⟩
      have hq := HQ.out
      go_wp2
      refine bodyPost_ret (v := .tuple #[.agg #[.bool false, .string ⟨#[]⟩], .int .i64 4]) (by simp [results, Try.results55, go_sem, a0, a1]) rfl ?_
      exact ⟨rfl, HO1.out.stored (w.heap.size + 1) (by omega) _ _⟩
    · have t3 : ¬ (65536 : Int) < (k : Int) * b := by
        have h2 : ((k * b : Nat) : Int) = (k : Int) * b := by simp
        omega
      have he : powE (iv na sa) k = 0 := by rw [HE.out, if_neg hlim]
      have hv : powV (iv na sa) k = iv na sa ^ k := by unfold powV; rw [he]; rfl
      rw [he, hv]
      clear he hv
      have hnk : nlen x * k ≤ 5000000 := by
        have : 32 * nlen x * k ≤ (b + 31) * k := Nat.mul_le_mul_right _ hbn
        rw [Nat.add_mul, Nat.mul_comm b k, Nat.mul_assoc] at this
        omega
      have hnp := nlen_pow x k
      have HPw := Lib.hid (fun A c W h => power_any A c x k W h hnk (by omega) (by omega))
      clear hlim
      obtain ⟨q, hq⟩ : ∃ q : Int, (k : Int) * b = q := ⟨_, rfl⟩
      rw [hq] at hm1 hm2 t3
      have HQ := Lib.hid hq
      have hq3 : q ≤ 65536 := by omega
      clear hq hm2
      have fin : ∀ t : Bool, ((k : Int) % 2 == 1) = t → decide (k % 2 = 1) = t → Calls Try.prog 55 #[.agg #[.bool na, .string sa], .int .i64 k] w (RetIE w (iv na sa ^ k) 0) := by
        intro t t4 t5
        rw [t5] at HP
        obtain ⟨s, hs⟩ : ∃ s, (na && t) = s := ⟨_, rfl⟩
        have HS := Lib.hid hs
        clear t5
        cases na <;> cases t
        all_goals
          simp only [Bool.true_and, Bool.false_and] at hs
          subst hs
          go_enter Try.func55, Try.ntmps55
          go_wp2_with fail
          refine (HD.out _).mono ?_
          rintro e w1 ⟨A, c, rfl, hn, hb⟩
          have HO1 := Lib.hid (hO.out.next hb)
          have HN1 := Lib.hid hn
          obtain ⟨a0, a1, a2, a3, a4⟩ := HO1.out.blk 1 (w.heap.size + 1) rfl rfl
          obtain ⟨b0, b1, b2, b3, b4⟩ := HO1.out.blk 0 w.heap.size rfl rfl
          clear hb hn
          go_wp2_with fail
          refine (HLn.out A c _ HN1.out (by omega)).mono ?_
          rintro e w2 ⟨rfl, rfl⟩
          have hq := HQ.out
          go_wp2_with fail
          refine (HPw.out A c _ HN1.out).mono ?_
          rintro e w3 ⟨A3, c3, rfl, hn3, hb3⟩
          have HO3 := Lib.hid (HO1.out.next hb3)
          have HN3 := Lib.hid hn3
          obtain ⟨d0, d1, d2, d3, d4⟩ := HO3.out.blk 1 (w.heap.size + 1) rfl rfl
          clear hb3 hn3 a0 a1 a2 a3 a4 b0 b1 b2 b3 b4
          go_wp2_with fail
          refine (number_nt _ A3 c3 _ _ HN3.out (by omega)).mono ?_
          rintro e w4 ⟨rfl, hb4⟩
          have HO4 := Lib.hid (HO3.out.next hb4)
          obtain ⟨j0, j1, j2, j3, j4⟩ := HO4.out.blk 1 (w.heap.size + 1) rfl rfl
          clear hb4 d0 d1 d2 d3 d4
          go_wp2
          refine bodyPost_ret (v := .tuple #[.agg #[.bool (sg _ (x ^ k)), .string (mg (x ^ k))], .int .i64 0]) (by simp [results, Try.results55, go_sem, j0, j1]; rfl) rfl ?_
          refine ⟨?_, HO4.out.stored (w.heap.size + 1) (by omega) _ _⟩
          rw [HP.out, ← sg_eq, abs_eq]
          rfl
      by_cases hodd : k % 2 = 1
      · exact fin true (by rw [beq_iff_eq]; omega) (decide_eq_true hodd)
      · exact fin false (by rw [beq_eq_false_iff_ne]; omega) (decide_eq_false hodd)
end Go.Proofs.Gv
