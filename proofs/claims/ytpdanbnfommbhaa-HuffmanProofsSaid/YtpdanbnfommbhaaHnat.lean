/- Integers that are not negative, as contracts; small tools for rows. -/
import Derived.Test.YtpdanbnfommbhaaHmeqP
import Derived.Test.YtpdanbnfommbhaaMix
import Derived.Deep.AppendLies
set_option linter.unusedSimpArgs false
set_option linter.unusedVariables false
namespace Go.Proofs.Gv
open Go Go.RowKit Go.Maps

theorem cOfN (d : Nat) (h : d < 2 ^ 62) (W : World) : Calls Try.prog 14 #[.int .i64 (d : Int)] W fun e w' => e = .returned (.agg #[.bool false, .string (mg d)]) ∧ Below W.heap.size W w' := by
  have := cOf (d : Int) (by omega) (by omega) W
  rwa [Int.natAbs_natCast, show sgn (d : Int) = false from decide_eq_false (by omega)] at this
theorem cAddN {x d : Nat} (N M : Nat) (hx : x < 2 ^ N) (hd : d < 2 ^ M) (hN : N ≤ 1000000) (hM : M ≤ 1000000) (W : World) :
    Calls Try.prog 15 #[.agg #[.bool false, .string (mg x)], .agg #[.bool false, .string (mg d)]] W fun e w' => e = .returned (.agg #[.bool false, .string (mg (x + d))]) ∧ Below W.heap.size W w' := by
  have := cAdd (VN_rp (N := N) hx (by omega)) (VN_rp (N := M) hd (by omega)) W
  rwa [show (x : Int) + (d : Int) = ((x + d : Nat) : Int) by simp, Int.natAbs_natCast, show sgn ((x + d : Nat) : Int) = false from decide_eq_false (by omega)] at this
theorem cCmpN {x d : Nat} (N M : Nat) (hx : x < 2 ^ N) (hd : d < 2 ^ M) (hN : N ≤ 1000000) (hM : M ≤ 1000000) (W : World) :
    Calls Try.prog 19 #[.agg #[.bool false, .string (mg x)], .agg #[.bool false, .string (mg d)]] W fun e w' => e = .returned (.int .i64 (cmpI (x : Int) (d : Int))) ∧ Below W.heap.size W w' :=
  cCmp (VN_rp (N := N) hx (by omega)) (VN_rp (N := M) hd (by omega)) W
theorem VL_len (l : List Nat) : (VL l).length = l.length := by unfold VL; rw [List.length_map]
theorem merges_ms {q : Nat} (hq : 2 ≤ q) {Ws : List Nat} (h1 : 1 ≤ Ws.length) : Ms q (startL q Ws) (mergesH q Ws) :=
  treeN_ms hq _ _ (by rw [startL_cf]; exact Nat.le_refl _) (startL_pos h1) (startL_mod hq h1)
end Go.Proofs.Gv
