/- The law LimitedNumbers. -/
import Derived.Test.YtghjjfknlnegpaaGreatMpkP
import Derived.Test.YtghjjfknlnegpaaGreatMtp
import Derived.Test.YtghjjfknlnegpaaGreatRowUP
import Derived.Test.YtghjjfknlnegpaaGreatLawValP
import Derived.Deep.LoopGhost
import Derived.Test.YtghjjfknlnegpaaGreatIntKit
import Derived.Test.YtghjjfknlnegpaaGreatRows
import Derived.Test.YtghjjfknlnegpaaGreatKitP
import Derived.Deep.RegionHeld3
import Derived.Test.YtghjjfknlnegpaaGreatIntEqP
import Derived.Test.YtghjjfknlnegpaaGreatShelf
import Derived.Shelf.Small.Bits
import Derived.Test.YtghjjfknlnegpaaGreatMixP
import Derived.Test.YtghjjfknlnegpaaGreatOwnBP
import Derived.Maps.AppendAt
import Derived.Test.YtghjjfknlnegpaaGreatFront
import Derived.Test.YtghjjfknlnegpaaGreatLawP
import Derived.Test.YtghjjfknlnegpaaGreatHordP
import Derived.Deep.AppendLies
import Derived.Test.YtghjjfknlnegpaaGreatLcn
import Derived.Test.YtghjjfknlnegpaaGreatLnp
import Derived.Test.YtghjjfknlnegpaaGreatLtab
import Derived.Test.YtghjjfknlnegpaaGreatLlnP
import Derived.BigQuiet
import Derived.Deep.QuietTactic
import Derived.Test.YtghjjfknlnegpaaGreatMln
import Derived.Test.YtghjjfknlnegpaaGreatLpc
set_option linter.unusedSimpArgs false
set_option linter.unusedVariables false
namespace Go.Proofs.Gv
open Go Go.RowKit Go.Maps

/-- Lengths, or none. -/
def LnV (L : List (Bool × ByteArray)) (m : Int) (v : Value) (W : World) : Prop :=
  (limE L m ≠ 0 ∧ v = .slice none 0 0) ∨ (limE L m = 0 ∧ ∃ Ws g, L = VL Ws ∧ v = .slice (some ⟨g, 0, none⟩) Ws.length Ws.length ∧ BC W g (natV (limL Ws m.toNat)))
theorem LnV.below {L : List (Bool × ByteArray)} {m : Int} {v : Value} {W W' : World} (h : LnV L m v W) (hb : Below W.heap.size W W') : LnV L m v W' := by
  rcases h with h | ⟨h0, Ws, g, h1, h2, h3⟩
  · exact .inl h
  · exact .inr ⟨h0, Ws, g, h1, h2, h3.below hb⟩
theorem LnV.of {L : List (Bool × ByteArray)} {m : Int} {w w' : World} {e : Ending} (h : LLn L m w e w') : ∃ v, e = .returned (.tuple #[v, .int .i64 (limE L m)]) ∧ LnV L m v w' ∧ Below w.heap.size w w' := by
  obtain ⟨h1, h2, h3⟩ := h
  by_cases h0 : limE L m = 0
  · obtain ⟨Ws, g, e1, e2, e3⟩ := h2 h0
    exact ⟨_, by rw [h0]; exact e2, .inr ⟨h0, Ws, g, e1, rfl, e3⟩, h3⟩
  · exact ⟨_, h1 h0, .inl ⟨h0, rfl⟩, h3⟩
/-- Rows of two numbers, or none. -/
def PkV (L : List (Bool × ByteArray)) (m : Int) (v : Value) (W : World) : Prop :=
  (limE L m ≠ 0 ∧ v = .slice none 0 0) ∨ (limE L m = 0 ∧ ∃ Ws g c, L = VL Ws ∧ v = .slice (some ⟨g, 0, none⟩) m.toNat c ∧ PkR W g (tkI (auL Ws) m.toNat (2 * Ws.length - 2)))
theorem PkV.below {L : List (Bool × ByteArray)} {m : Int} {v : Value} {W W' : World} (h : PkV L m v W) (hb : Below W.heap.size W W') : PkV L m v W' := by
  rcases h with h | ⟨h0, Ws, g, c, h1, h2, h3⟩
  · exact .inl h
  · exact .inr ⟨h0, Ws, g, c, h1, h2, h3.belowM hb⟩
theorem PkV.of {L : List (Bool × ByteArray)} {m : Int} {w w' : World} {e : Ending} (h : PkP L m w e w') : ∃ v, e = .returned (.tuple #[v, .int .i64 (limE L m)]) ∧ PkV L m v w' ∧ Below w.heap.size w w' := by
  obtain ⟨h1, h2, h3⟩ := h
  by_cases h0 : limE L m = 0
  · obtain ⟨Ws, g, c, e1, e2, -, -, e3⟩ := h2 h0
    exact ⟨_, by rw [h0]; exact e2, .inr ⟨h0, Ws, g, c, e1, rfl, e3⟩, h3⟩
  · exact ⟨_, h1 h0, .inl ⟨h0, rfl⟩, h3⟩
theorem LCs.ex {L : List (Bool × ByteArray)} {m : Int} : ∃ s, ∀ w e w', LCs L m w e w' → e = .returned (.tuple #[.agg #[.bool false, .string s], .int .i64 (limE L m)]) ∧ Below w.heap.size w w' := by
  by_cases h0 : limE L m = 0
  · obtain ⟨hck, k, rfl, -⟩ := limE_ok h0
    obtain ⟨-, -, Ws, rfl⟩ := chkW_ok hck
    refine ⟨mg (limC Ws (Int.toNat (k : Int))), fun w e w' ⟨_, h2, h3⟩ => ?_⟩
    obtain ⟨Us, e1, e2⟩ := h2 h0
    obtain rfl := VLinj9 e1
    rw [h0]
    exact ⟨e2, h3⟩
  · exact ⟨⟨#[]⟩, fun w e w' ⟨h1, _, h3⟩ => ⟨h1 h0, h3⟩⟩
theorem LPn.ex {L : List (Bool × ByteArray)} {m : Int} : ∃ b s, ∀ w e w', LPn L m w e w' → e = .returned (.tuple #[.agg #[.bool b, .string s], .int .i64 (limE L m)]) ∧ Below w.heap.size w w' := by
  by_cases h0 : limE L m = 0
  · obtain ⟨hck, k, rfl, -⟩ := limE_ok h0
    obtain ⟨-, -, Ws, rfl⟩ := chkW_ok hck
    refine ⟨sgn ((limC Ws (Int.toNat (k : Int)) : Int) - (hufC Ws : Int)), mg ((limC Ws (Int.toNat (k : Int)) : Int) - (hufC Ws : Int)).natAbs, fun w e w' ⟨_, h2, h3⟩ => ?_⟩
    obtain ⟨Us, e1, e2⟩ := h2 h0
    obtain rfl := VLinj9 e1
    rw [h0]
    exact ⟨e2, h3⟩
  · exact ⟨false, ⟨#[]⟩, fun w e w' ⟨h1, _, h3⟩ => ⟨h1 h0, h3⟩⟩
end Go.Proofs.Gv
