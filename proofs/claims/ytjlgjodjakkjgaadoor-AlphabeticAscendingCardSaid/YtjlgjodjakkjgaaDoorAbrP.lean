/- The law AlphabeticCodes. -/
import Derived.Test.YtjlgjodjakkjgaaDoorAw40
import Derived.Test.YtjlgjodjakkjgaaDoorAlpD
set_option linter.unusedSimpArgs false
set_option linter.unusedVariables false
namespace Go.Proofs.Gv
open Go Go.RowKit Go.Maps

def cdE (L : List Int) : Int := if lenE L ≠ 0 then lenE L else match wrd (L.map Int.toNat) with | none => 15 | some _ => 0
def cdW (L : List Int) : List ByteArray := if lenE L ≠ 0 then [] else (wrd (L.map Int.toNat)).getD []
theorem SR.nil (W : World) : SR W (.slice none 0 0) [] := ⟨none, 0, rfl, Nat.le_refl _, Nat.zero_le _, fun i s hi => by simp at hi⟩
theorem CdP.out {L : List Int} {w : World} {e : Ending} {w' : World} (h : CdP L w e w') : ∃ v, e = .returned (.tuple #[v, .int .i64 (cdE L)]) ∧ SR w' v (cdW L) ∧ Below w.heap.size w w' := by
  obtain ⟨h, hb⟩ := h
  unfold cdE cdW
  by_cases h0 : lenE L ≠ 0
  · rw [if_pos h0] at h
    rw [if_pos h0, if_pos h0]
    exact ⟨_, h, SR.nil _, hb⟩
  · rw [if_neg h0] at h
    rw [if_neg h0, if_neg h0]
    cases hw : wrd (L.map Int.toNat) with
    | none => rw [hw] at h; exact ⟨_, h, SR.nil _, hb⟩
    | some ws => rw [hw] at h; obtain ⟨v, e1, h1⟩ := h; exact ⟨v, e1, h1, hb⟩
theorem FtP.out2 {L : List Int} {w : World} {e : Ending} {w' : World} (h : FtP L w e w') : e = .returned (.tuple #[.bool (fitO L), .int .i64 (lenE L)]) ∧ Below w.heap.size w w' := by
  obtain ⟨h, hb⟩ := h
  refine ⟨?_, hb⟩
  unfold fitO
  by_cases h0 : lenE L ≠ 0
  · rw [if_pos h0] at h
    rw [h, beq_eq_false_iff_ne.2 h0]
    rfl
  · rw [if_neg h0] at h
    have e0 : lenE L = 0 := Decidable.not_not.1 h0
    cases hw : wrd (L.map Int.toNat) with
    | none => rw [hw] at h; rw [h, e0]; rfl
    | some ws => rw [hw] at h; rw [h, e0]; rfl
end Go.Proofs.Gv

namespace Go.Proofs.Gv
open Go Go.RowKit Go.Maps

def BinU (l : List UInt8) : Prop := ∀ c ∈ l, c = 48 ∨ c = 49
end Go.Proofs.Gv
