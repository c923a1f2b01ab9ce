/- The law LimitedTables. -/
import Derived.Test.YtghjjfknlnegpaaGreatZtb
import Derived.Test.YtghjjfknlnegpaaGreatRefPwrP
import Derived.Test.YtghjjfknlnegpaaGreatLawP
import Derived.Test.YtghjjfknlnegpaaGreatLnu
set_option linter.unusedSimpArgs false
set_option linter.unusedVariables false
namespace Go.Proofs.Gv
open Go Go.RowKit Go.Maps

theorem TbV.ex {L : List (Bool × ByteArray)} {m : Int} : ∃ M : List (List (Bool × ByteArray)), M.length ≤ 1000 ∧ (L.length ≤ 12 ∨ 64 < L.length → ∀ r ∈ M, r.length ≤ 1000) ∧ ∀ v W, TbV L m v W → RwO W v M := by
  by_cases h0 : limE L m = 0
  · obtain ⟨hck, k, rfl, -, h64, -⟩ := limE_ok h0
    obtain ⟨-, hl64, Ws, rfl⟩ := chkW_ok hck
    refine ⟨tabX Ws (Int.toNat (k : Int)), by rw [tabX_len, Int.toNat_natCast]; omega, fun h12 r hr => ?_, fun v W h => ?_⟩
    · obtain ⟨j, hj, rfl⟩ := List.mem_map.1 hr
      rw [rowX_len]
      rw [List.length_map] at h12 hl64
      have := nn_le (show Ws.length ≤ 12 by omega)
      omega
    · rcases h with ⟨h, -⟩ | ⟨-, Us, T, e1, rfl, hr⟩
      · exact absurd h0 h
      · obtain rfl := VLinj9 e1
        exact hr.toO
  · refine ⟨[], by simp, fun _ r hr => by simp at hr, fun v W h => ?_⟩
    rcases h with ⟨-, rfl⟩ | ⟨h, -⟩
    · exact RwO.nil W
    · exact absurd h h0
end Go.Proofs.Gv
