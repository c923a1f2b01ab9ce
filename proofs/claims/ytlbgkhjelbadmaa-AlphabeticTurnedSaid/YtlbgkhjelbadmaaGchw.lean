/- The reference's look at weights (grooveref38). -/
import Derived.Test.YtlbgkhjelbadmaaRowSP
import Derived.Test.YtlbgkhjelbadmaaRefBas
set_option linter.unusedSimpArgs false
set_option linter.unusedVariables false
namespace Go.Proofs.Gv
open Go Go.RowKit Go.Maps

theorem rCheckP (na : Bool) (sa : ByteArray) (W : World) (hs : sa.size ≤ 1000000) :
    Calls Try.prog 75 #[.agg #[.bool na, .string sa]] W fun e w' => (∃ r : Int, e = .returned (.int .i64 r) ∧ (Canon na sa → r = 0) ∧ (¬ Canon na sa → r = 1)) ∧ Below W.heap.size W w' := by
  refine (rCheck_any na sa W hs).mono ?_
  rintro e w' ⟨rfl, hb⟩
  refine ⟨⟨_, rfl, fun h => ?_, fun h => ?_⟩, hb⟩
  · unfold ckV
    rw [if_pos ((canon_iff na sa).1 h)]
  · unfold ckV
    rw [if_neg (mt (canon_iff na sa).2 h)]
end Go.Proofs.Gv
