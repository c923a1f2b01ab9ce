/- Slices of integers that came in or were made: what they read as; the first functions of layer 38 over them. -/
import Derived.Test.YtghjjfknlnegpaaGreatLawValP
import Derived.Test.YtghjjfknlnegpaaGreatLawKit
import Derived.Deep.LoopGhost
import Derived.OpenShut
import Derived.Test.YtghjjfknlnegpaaGreatBoxes
import Derived.Deep.Slices
import Derived.Deep.Fields
import Derived.ChangeSame
import Derived.Carry
import Derived.Lib.SmallJoins
set_option linter.unusedSimpArgs false
set_option linter.unusedVariables false
namespace Go.Proofs.Gv
open Go Go.RowKit

/-- A slice reads as these integers. -/
def Sl (W : World) (a : Option Addr) (L : List (Bool × ByteArray)) : Prop :=
  ∀ (i : Nat) (n : Bool) (s : ByteArray), L[i]? = some (n, s) → ∃ A, a = some A ∧ W.cell? (A.add (i * 2)) = some (.bool n) ∧ W.cell? (A.add (i * 2 + 1)) = some (.string s)
theorem Sl.below {W W' : World} {a : Option Addr} {L : List (Bool × ByteArray)} (h : Sl W a L) (hb : Below W.heap.size W W') : Sl W' a L := fun i n s hi => by
  obtain ⟨A, e, c0, c1⟩ := h i n s hi
  exact ⟨A, e, (hb.cell (World.block_lt_of_cell? _ _ c0)).trans c0, (hb.cell (World.block_lt_of_cell? _ _ c1)).trans c1⟩
theorem Sl.lt {W : World} {a : Option Addr} {L : List (Bool × ByteArray)} (h : Sl W a L) (hl : 0 < L.length) : ∀ A, a = some A → A.block < W.heap.size := fun A e => by
  obtain ⟨A', e', c0, -⟩ := h 0 L[0].1 L[0].2 (List.getElem?_eq_getElem hl)
  rw [e] at e'
  cases e'
  exact World.block_lt_of_cell? _ (A.add (0 * 2)) c0
/-- The first error of weights. -/
noncomputable def chkR : List (Bool × ByteArray) → Int
  | [] => 0
  | x :: r => open Classical in if Canon x.1 x.2 then (if iv x.1 x.2 < 0 then 2 else chkR r) else 1
noncomputable def chkW (L : List (Bool × ByteArray)) : Int := if L.length < 2 then 5 else if 64 < L.length then 4 else chkR L
/-- Valid weights are written as they should be. -/
theorem chkR_ok : ∀ {L : List (Bool × ByteArray)}, chkR L = 0 → ∃ Ws : List Nat, L = Ws.map fun z => (false, mg z)
  | [], _ => ⟨[], rfl⟩
  | (n, s) :: r, h => by
    unfold chkR at h
    by_cases hc : Canon n s
    · rw [if_pos hc] at h
      by_cases hn : iv n s < 0
      · rw [if_pos hn] at h; cases h
      · rw [if_neg hn] at h
        obtain ⟨Ws, hW⟩ := chkR_ok h
        refine ⟨bv s.data.toList :: Ws, ?_⟩
        rw [List.map_cons, ← hW]
        congr 1
        obtain ⟨h1, h2⟩ := hc
        have : n = false := by
          rw [← h1]
          unfold iv at hn
          cases n with
          | false => rfl
          | true =>
            unfold sg
            simp at hn ⊢
            first | omega | (intro h; omega) | simp_all
        rw [this, h2]
    · rw [if_neg hc] at h; cases h
theorem chkW_ok {L : List (Bool × ByteArray)} (h : chkW L = 0) : 2 ≤ L.length ∧ L.length ≤ 64 ∧ ∃ Ws : List Nat, L = Ws.map fun z => (false, mg z) := by
  unfold chkW at h
  split at h
  · cases h
  · split at h
    · cases h
    · exact ⟨by omega, by omega, chkR_ok h⟩
end Go.Proofs.Gv

namespace Go.Proofs.Gv
open Go Go.RowKit Go.ChangeShapes Go.WideShapes Go.Deep

/-- A row of numbers of 32 bits. -/
def USl (W : World) (a : Option Addr) (L : List Nat) : Prop := ∀ (i x : Nat), L[i]? = some x → ∃ A, a = some A ∧ W.cell? (A.add i) = some (.int .u32 (x : Int))
theorem USl.below {W W' : World} {a : Option Addr} {L : List Nat} (h : USl W a L) (hb : Below W.heap.size W W') : USl W' a L := fun i x hi => by
  obtain ⟨A, e, hc⟩ := h i x hi
  exact ⟨A, e, (hb.cell (World.block_lt_of_cell? _ _ hc)).trans hc⟩
end Go.Proofs.Gv
