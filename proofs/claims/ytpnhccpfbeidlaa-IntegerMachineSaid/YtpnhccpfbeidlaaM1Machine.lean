/- The law IntegerMachine, joined. -/
import Derived.Test.YtpnhccpfbeidlaaL1Machine
import Derived.Test.YtpnhccpfbeidlaaL1MachB
import Derived.Test.YtpnhccpfbeidlaaCmp
import Derived.Test.YtpnhccpfbeidlaaIntSmall
import Derived.OpenShut
namespace Go.Proofs.Gv
open Go Go.RowKit

theorem cOf (z : Int) (h1 : -9223372036854775808 ≤ z) (h2 : z < 9223372036854775808) (W : World) : Calls Try.prog 31 #[.int .i64 z] W fun e w' => e = .returned (.agg #[.bool (sgn z), .string (mg z.natAbs)]) ∧ Below W.heap.size W w' := Of_any z W h1 h2
theorem cSmall {na : Bool} {sa : ByteArray} {a : Int} (ha : Rp na sa a) (h1 : -9223372036854775808 ≤ a) (h2 : a < 9223372036854775808) (W : World) : Calls Try.prog 34 #[.agg #[.bool na, .string sa]] W fun e w' => e = .returned (.tuple #[.int .i64 a, .bool true]) ∧ Below W.heap.size W w' := by
  have := Small_any na sa W (Nat.le_trans ha.sz (by decide))
  have hB : smB a = true := by unfold smB; simp; omega
  have hV : smV a = a := by unfold smV; rw [hB]; rfl
  rwa [ha.val, hB, hV] at this

theorem law_machine (a b : Int) (w : World) (ha : (Lit.int .i32 a).wf = true) (hb : (Lit.int .i32 b).wf = true) :
    Calls Try.prog 10 #[.int .i32 a, .int .i32 b] w fun e w' => e = .returned (.bool true) ∧ Below w.heap.size w w' := by
  have ha0 := bounds_i32 ha
  have hb0 := bounds_i32 hb
  clear ha hb
  have hm : (a * b).natAbs ≤ 2147483648 * 2147483648 := by rw [Int.natAbs_mul]; exact Nat.mul_le_mul (by omega) (by omega)
  have ra := Rp.V (z := a) 32 (by omega) (by decide)
  have rb := Rp.V (z := b) 32 (by omega) (by decide)
  have H1 := cOf a (by omega) (by omega)
  have H2 := cOf b (by omega) (by omega)
  have H3 := cSmall ra (by omega) (by omega)
  have H4 := cAdd ra rb
  have H5 := cOf (a + b) (by omega) (by omega)
  have H6 := cSub ra rb
  have H7 := cOf (a - b) (by omega) (by omega)
  have H8 := cMul ra rb
  have H9 := cOf (a * b) (by omega) (by omega)
  have H10 := cCmp ra rb
  have hwm : IntKind.i64.wrap (a * b) = a * b := by rw [IntKind.wrap_i64]; omega
  have q1 := cmpI_lt0 a b
  have q3 := cmpI_gt0 a b
  by_cases hz : b = 0
  · subst hz
    have H11 := cDiv0 ra rb
    rw [Int.add_zero] at H4
    rw [Int.sub_zero] at H6
    rw [Int.mul_zero] at H8
    exact machine_zero _ _ _ _ _ _ _ _ _ _ a _ _ _ (by omega) q1 rfl q3 rfl w H1 H2 H3 H4 H1 H6 H1 H8 H2 H10 H11
  · have hz1 : (b == 0) = false := by rw [beq_eq_false_iff_ne]; exact hz
    have hz2 : decide (b = 0) = false := by simpa using hz
    have e := Int.mul_tdiv_add_tmod a b
    have hq : (a.tdiv b).natAbs ≤ a.natAbs := by rw [Int.natAbs_tdiv]; exact Nat.div_le_self _ _
    have hr : (a.tmod b).natAbs < b.natAbs := by rw [Int.natAbs_tmod]; exact Nat.mod_lt _ (by omega)
    rw [Int.mul_comm] at e
    have hqt : IntKind.i64.wrap (a.tdiv b) = a.tdiv b := by rw [IntKind.wrap_i64]; omega
    by_cases h0 : a.tmod b = 0
    · have hd : DivSpec a b (a.tdiv b) 0 := ⟨by rw [h0] at e; exact e.symm, by omega⟩
      exact machine_none _ _ _ _ _ _ _ _ _ _ _ _ _ _ a b _ _ _ (by omega) (by omega) q1 rfl q3 rfl hwm _ hz1 hz2 hz hqt h0 w H1 H2 H3 H4 H5 H6 H7 H8 H9 H10 (cDiv ra rb hd hz) (cOf _ (by omega) (by omega)) (cOf 0 (by omega) (by omega))
    · have hr1 : (a.tmod b == 0) = false := by rw [beq_eq_false_iff_ne]; exact h0
      have hr2 : decide (a.tmod b = 0) = false := by simpa using h0
      have hr5 : (a.tmod b != 0) = true := by simpa using h0
      by_cases hs : (a.tmod b < 0) ↔ (b < 0)
      · have hd : DivSpec a b (a.tdiv b) (a.tmod b) := ⟨e.symm, by omega⟩
        have hr4 : decide (b < 0) = decide (a.tmod b < 0) := by simp [hs]
        exact machine_same _ _ _ _ _ _ _ _ _ _ _ _ _ _ a b _ _ _ (by omega) (by omega) q1 rfl q3 rfl hwm _ hz1 hz2 hz hqt trivial _ hr1 hr2 rfl hr5 hr4 w H1 H2 H3 H4 H5 H6 H7 H8 H9 H10 (cDiv ra rb hd hz) (cOf _ (by omega) (by omega)) (cOf _ (by omega) (by omega))
      · have hd : DivSpec a b (a.tdiv b - 1) (a.tmod b + b) := ⟨by rw [Int.sub_mul, Int.one_mul]; omega, by omega⟩
        have hr4 : decide (b < 0) = !decide (a.tmod b < 0) := by
          by_cases h1 : b < 0
          · have : ¬ a.tmod b < 0 := by omega
            rw [decide_eq_true h1, decide_eq_false this]; rfl
          · have : a.tmod b < 0 := by omega
            rw [decide_eq_false h1, decide_eq_true this]; rfl
        have w1 : IntKind.i64.wrap (a.tdiv b - 1) = a.tdiv b - 1 := by rw [IntKind.wrap_i64]; omega
        have w2 : IntKind.i64.wrap (a.tmod b + b) = a.tmod b + b := by rw [IntKind.wrap_i64]; omega
        have w3 : wrap64 (a.tdiv b - 1) = a.tdiv b - 1 := by unfold wrap64; omega
        have w4 : wrap64 (a.tmod b + b) = a.tmod b + b := by unfold wrap64; omega
        exact machine_adj _ _ _ _ _ _ _ _ _ _ _ _ _ _ a b _ _ _ (by omega) (by omega) q1 rfl q3 rfl hwm _ hz1 hz2 hz hqt trivial _ hr1 hr2 rfl hr5 hr4 w1 w2 w3 w4 w H1 H2 H3 H4 H5 H6 H7 H8 H9 H10 (cDiv ra rb hd hz) (cOf _ (by omega) (by omega)) (cOf _ (by omega) (by omega))
end Go.Proofs.Gv
