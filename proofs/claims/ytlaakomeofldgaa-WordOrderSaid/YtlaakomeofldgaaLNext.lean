/- The law WordNext, walked. -/
import Derived.Test.YtlaakomeofldgaaUnrank
import Derived.Test.YtlaakomeofldgaaAwk07
namespace Go.Proofs.Gv
open Go Go.RowKit

theorem rankB {q : Nat} {s : ByteArray} {R : Nat} (hc : chk q s = 0) (hr : rk q s s.size = (R : Nat)) (hl : s.size ≤ 65536) (W : World) :
    Calls Try.prog 40 #[.int .i64 q, .string s] W fun e w' => e = .returned (.tuple #[.agg #[.bool false, .string (mg R)], .int .i64 0]) ∧ Below W.heap.size W w' := by
  have := Rank_any q s W (by omega)
  unfold RetRank at this
  rw [hc, if_pos rfl, Int.toNat_natCast, hr, sgn_natB, Int.natAbs_natCast] at this
  exact this
theorem nextB {q : Nat} {s t : ByteArray} (hn : nextS q s = (t, 0)) (hl : s.size ≤ 65536) (W : World) :
    Calls Try.prog 35 #[.int .i64 q, .string s] W fun e w' => e = .returned (.tuple #[.string t, .int .i64 0]) ∧ Below W.heap.size W w' := by
  have := Next_any q s W (by omega)
  unfold RetNext at this
  rw [hn] at this
  exact this
theorem wcheckB {q : Int} {s : ByteArray} {c : Int} (hc : chk q s = c) (hl : s.size ≤ maxLen) (W : World) :
    Calls Try.prog 37 #[.int .i64 q, .string s] W fun e w' => e = .returned (.int .i64 c) ∧ Below W.heap.size W w' :=
  (WCheck_any q s W (by unfold maxLen at hl; omega)).mono fun e w' ⟨h1, h2⟩ => ⟨by rw [h1, hc], h2.elim fun n hn => hn ▸ below_drewN (Below.refl _ _) _⟩
theorem unrankB {q n A : Nat} {t : ByteArray} (h1 : 1 ≤ q) (h2 : q ≤ 16) (hn : n ≤ 65536) (hA : (mg A).size ≤ 1000000) (hlt : A < q ^ n) (ht : unS q n A = t) (W : World) :
    Calls Try.prog 42 #[.int .i64 q, .int .i64 n, .agg #[.bool false, .string (mg A)]] W fun e w' => e = .returned (.tuple #[.string t, .int .i64 0]) ∧ Below W.heap.size W w' := by
  have := Unrank_V q n A W h1 h2 hn hA
  unfold RetUn at this
  rw [if_pos hlt, if_pos hlt, ht] at this
  exact this
theorem unrankE {q n A : Nat} (h1 : 1 ≤ q) (h2 : q ≤ 16) (hn : n ≤ 65536) (hA : (mg A).size ≤ 1000000) (hlt : ¬ A < q ^ n) (W : World) :
    Calls Try.prog 42 #[.int .i64 q, .int .i64 n, .agg #[.bool false, .string (mg A)]] W fun e w' => e = .returned (.tuple #[.string ⟨#[]⟩, .int .i64 2]) ∧ Below W.heap.size W w' := by
  have := Unrank_V q n A W h1 h2 hn hA
  unfold RetUn at this
  rw [if_neg hlt, if_neg hlt] at this
  exact this
@[go_sem] theorem binOp_string_gtr' {P : Program} (w : World) (t : TypeId) (x y : ByteArray) : (binOp .gtr t (.string x) (.string y)).run P w = .ok (.bool !(Op.bytesLess x.toList y.toList || (x.toList == y.toList))) w := by
  simp [binOp, Op.stringOp]
@[go_sem] theorem run_max4 {P : Program} (w : World) (ts : Array TypeId) (t : TypeId) (k k' k'' k3 : IntKind) : (Builtin.max_ ts t #[.int k 0, .int k' 0, .int k'' 0, .int k3 0]).run P w = .ok (.int k 0) w := by
  simp [Builtin.max_, Builtin.max2]

end Go.Proofs.Gv
