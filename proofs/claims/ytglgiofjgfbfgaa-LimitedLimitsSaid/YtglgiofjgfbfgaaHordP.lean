/- The walk of the insertion sort, plainly. -/
import Derived.Test.YtglgiofjgfbfgaaLim
import Derived.Test.YtglgiofjgfbfgaaRowUP
import Derived.Test.YtglgiofjgfbfgaaShelf
import Derived.LoopN
set_option linter.unusedSimpArgs false
set_option linter.unusedVariables false
namespace Go.Proofs.Gv

/-- The row while index i stands m places ahead of its own. -/
def insSt (W : Nat → Nat) (n i m : Nat) : List Nat := ((ordR W i).drop m).reverse ++ i :: (((ordR W i).take m).reverse ++ (List.range n).drop (i + 1))
/-- The row ahead of a round. -/
def outSt (W : Nat → Nat) (n i : Nat) : List Nat := (ordR W i).reverse ++ (List.range n).drop i
theorem out_start (W : Nat → Nat) {n : Nat} (h : 1 ≤ n) : outSt W n 1 = List.range n := by
  show [0] ++ (List.range n).drop 1 = _
  obtain ⟨k, rfl⟩ : ∃ k, n = k + 1 := ⟨n - 1, by omega⟩
  rw [List.range_succ_eq_map]
  rfl
theorem out_ins (W : Nat → Nat) {n i : Nat} (h : i < n) : outSt W n i = insSt W n i 0 := by
  unfold outSt insSt
  rw [List.drop_zero, List.take_zero, List.reverse_nil, List.nil_append, List.drop_eq_getElem_cons (by rw [List.length_range]; exact h), List.getElem_range]
theorem out_end (W : Nat → Nat) (n : Nat) : outSt W n n = (ordR W n).reverse := by
  unfold outSt
  rw [List.drop_of_length_le (by rw [List.length_range]; exact Nat.le_refl _), List.append_nil]
theorem ins_len (W : Nat → Nat) {n i m : Nat} (h : i < n) (hm : m ≤ i) : (insSt W n i m).length = n := by
  unfold insSt
  rw [List.length_append, List.length_reverse, List.length_drop, ordR_len, List.length_cons, List.length_append, List.length_reverse, List.length_take, ordR_len, List.length_drop, List.length_range]
  omega
/-- Where it stands still. -/
theorem ins_stop (W : Nat → Nat) {n i m : Nat} (hm : m ≤ i) (h1 : ∀ j y, j < m → (ordR W i)[j]? = some y → W y < W i) (h2 : ∀ y, (ordR W i)[m]? = some y → ¬ W y < W i) : insSt W n i m = outSt W n (i + 1) := by
  have e : ordR W (i + 1) = insR W i (ordR W i) := rfl
  unfold insSt outSt
  rw [e, insR_at _ m (by rw [ordR_len]; exact hm) h1 h2]
  simp
/-- A step ahead. -/
theorem ins_step (W : Nat → Nat) {n i m y : Nat} (h : (ordR W i)[m]? = some y) : ∃ A D, insSt W n i m = A ++ y :: i :: D ∧ A.length + m + 1 = i ∧ insSt W n i (m + 1) = A ++ i :: y :: D := by
  have hl := (List.getElem?_eq_some_iff.1 h).1
  rw [ordR_len] at hl
  refine ⟨((ordR W i).drop (m + 1)).reverse, ((ordR W i).take m).reverse ++ (List.range n).drop (i + 1), ?_, ?_, ?_⟩
  · unfold insSt
    obtain ⟨hl2, rfl⟩ := List.getElem?_eq_some_iff.1 h
    rw [List.drop_eq_getElem_cons hl2, List.reverse_cons, List.append_assoc]
    rfl
  · rw [List.length_reverse, List.length_drop, ordR_len]; omega
  · unfold insSt
    rw [List.take_add_one, h]
    simp
end Go.Proofs.Gv

namespace Go.Proofs.Gv
open Go Go.RowKit

/-- An integer that is not negative, as it is written. -/
def VN (z : Nat) : Value := .agg #[.bool false, .string (mg z)]
def ord2 (c d : Int) : Int := if c ≠ 0 then c else d
set_option maxRecDepth 100000 in
theorem or_any (g : Nat) (c d : Int) (w : World) (h : BC w g [.int .i64 c, .int .i64 d]) :
    Calls Try.prog 136 #[.slice (some ⟨g, 0, none⟩) 2 2] w fun e w' => e = .returned (.int .i64 (ord2 c d)) ∧ w' = w := by
  have h0 := h.at 0 (.int .i64 c) rfl
  have h1 := h.at 1 (.int .i64 d) rfl
  by_cases hc : c = 0
  · subst hc
    by_cases hd : d = 0
    · subst hd
      go_enter Try.func136, Try.ntmps136
      go_wp2_with fail
      refine wp_loop_rounds 3 ?_
      rw [rounds_succ]
      go_wp2_with fail
      rw [rounds_succ]
      go_wp2_with fail
      rw [rounds_succ]
      go_wp2
      go_ret
      exact ⟨rfl, rfl⟩
    · have hb : (d == 0) = false := by simpa using hd
      have hb2 : (d != 0) = true := by simpa using hd
      have HD := Lib.hid hd
      clear hd
      go_enter Try.func136, Try.ntmps136
      go_wp2_with fail
      refine wp_loop_rounds 2 ?_
      rw [rounds_succ]
      go_wp2_with fail
      rw [rounds_succ]
      go_wp2
      go_ret
      exact ⟨rfl, rfl⟩
  · have hb : (c == 0) = false := by simpa using hc
    have hb2 : (c != 0) = true := by simpa using hc
    have HD := Lib.hid (show ord2 c d = c by unfold ord2; rw [if_pos hc])
    clear hc
    go_enter Try.func136, Try.ntmps136
    go_wp2_with fail
    refine wp_loop_rounds 1 ?_
    rw [rounds_succ]
    go_wp2
    go_ret
    exact ⟨by rw [HD.out]; rfl, rfl⟩
theorem VN_rp {z : Nat} {N : Nat} (h : z < 2 ^ N) (hN : N ≤ 7900000) : Rp false (mg z) (z : Int) := by
  have := Rp.V (z := (z : Int)) N (by rwa [Int.natAbs_natCast]) hN
  rwa [Int.natAbs_natCast, show sgn (z : Int) = false from decide_eq_false (by omega)] at this
theorem ord_lt (u w : Nat) (i k : Int) : decide (ord2 (cmpI (u : Int) (w : Int)) (Lib.compareInt i k) < 0) = (decide (u < w) || (decide (u = w) && decide (i < k))) := by
  unfold ord2 cmpI
  by_cases h1 : u < w
  · rw [if_pos (show (u : Int) < w by omega)]; simp [h1]
  · by_cases h2 : u = w
    · subst h2
      simp only [Int.lt_irrefl, if_false, ne_eq, not_true_eq_false]
      unfold Lib.compareInt
      by_cases h3 : i < k
      · simp [h3]
      · by_cases h4 : k < i
        · simp [h3, h4]
        · simp [h3, h4]
    · rw [if_neg (show ¬ (u : Int) < w by omega), if_pos (show (w : Int) < u by omega)]
      simp [h1, h2]
set_option maxRecDepth 100000 in
set_option maxHeartbeats 1600000 in
theorem byWeight_any (i k : Int) (u v : Nat) (N : Nat) (hu : u < 2 ^ N) (hv : v < 2 ^ N) (hN : N ≤ 1000000) (w : World) :
    Calls Try.prog 121 #[.int .i64 i, .int .i64 k, VN u, VN v] w fun e w' => e = .returned (.int .i64 (ord2 (cmpI (u : Int) (v : Int)) (Lib.compareInt i k))) ∧ Below w.heap.size w w' := by
  have HU := Lib.hid (VN_rp hu (by omega))
  have HV := Lib.hid (VN_rp hv (by omega))
  clear hu hv
  unfold VN
  obtain ⟨c, hc⟩ : ∃ c, cmpI (u : Int) (v : Int) = c := ⟨_, rfl⟩
  obtain ⟨d, hd⟩ : ∃ d, Lib.compareInt i k = d := ⟨_, rfl⟩
  have HC := Lib.hid (fun W => cCmp HU.out HV.out W)
  have HD := Lib.hid (fun W => Try.cmp_Compare_int i k W)
  rw [hc, hd]
  rw [hc] at HC
  rw [hd] at HD
  clear hc hd
  go_enter Try.func121, Try.ntmps121
  have HB := Lib.hid (((Below.refl w.heap.size w).alloc (Nat.le_refl _) (.cells #[.bool false, .string (mg u)] 29)).alloc (by simp) (.cells #[.bool false, .string (mg v)] 29))
  have HX := Lib.hid ((BC.new w w.heap.size #[.bool false, .string (mg u)] 29 rfl).alloc (.cells #[.bool false, .string (mg v)] 29))
  have HY := Lib.hid (BC.new (w.alloc (.cells #[.bool false, .string (mg u)] 29)) (w.heap.size + 1) #[.bool false, .string (mg v)] 29 (by simp))
  have x0 := HX.out.at 0 (.bool false) rfl
  have x1 := HX.out.at 1 (.string (mg u)) rfl
  have y0 := HY.out.at 0 (.bool false) rfl
  have y1 := HY.out.at 1 (.string (mg v)) rfl
  go_wp2_with fail
  refine (HC.out _).mono ?_
  rintro e w1 ⟨rfl, hb⟩
  have HB1 := Lib.hid (bstep HB.out hb)
  clear hb x0 x1 y0 y1 HX HY HB
  go_wp2_with fail
  refine (HD.out _).mono ?_
  rintro e w2 ⟨rfl, rfl⟩
  have HZ := Lib.hid (BC.new w2 w2.heap.size #[.int .i64 c, .int .i64 d] 3 rfl)
  go_wp2_with fail
  refine (or_any _ _ _ _ HZ.out).mono ?_
  rintro e w3 ⟨rfl, rfl⟩
  go_wp2
  go_ret
  exact ⟨rfl, HB1.out.alloc HB1.out.size _⟩
end Go.Proofs.Gv
