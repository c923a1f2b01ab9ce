/- Tables as slices of slices at any address; limited.Table and grooveref39.Table with errors (the first part printed by mk_ztb.py). -/
import Derived.Test.YtghjjfknlnegpaaGreatLtt
import Derived.Test.YtghjjfknlnegpaaGreatMtp
import Derived.Test.YtghjjfknlnegpaaGreatRowUP
import Derived.Test.YtghjjfknlnegpaaGreatLawValP
import Derived.Deep.LoopGhost
import Derived.Test.YtghjjfknlnegpaaGreatIntKit
import Derived.Test.YtghjjfknlnegpaaGreatRows
import Derived.Test.YtghjjfknlnegpaaGreatKitP
import Derived.Deep.RegionHeld3
import Derived.Test.YtghjjfknlnegpaaGreatIntEqP
import Derived.Test.YtghjjfknlnegpaaGreatShelf
import Derived.Shelf.Small.Bits
import Derived.Test.YtghjjfknlnegpaaGreatMixP
import Derived.Test.YtghjjfknlnegpaaGreatOwnBP
import Derived.Maps.AppendAt
import Derived.Test.YtghjjfknlnegpaaGreatFront
import Derived.Test.YtghjjfknlnegpaaGreatLawP
import Derived.Test.YtghjjfknlnegpaaGreatHordP
import Derived.Deep.AppendLies
import Derived.Test.YtghjjfknlnegpaaGreatLcn
import Derived.Test.YtghjjfknlnegpaaGreatLnp
import Derived.Test.YtghjjfknlnegpaaGreatLtab
import Derived.Test.YtghjjfknlnegpaaGreatLlnP
set_option linter.unusedSimpArgs false
set_option linter.unusedVariables false
namespace Go.Proofs.Gv
open Go Go.RowKit Go.Maps

/-- A row of rows at any address. -/
def RwO (W : World) (v : Value) (M : List (List (Bool × ByteArray))) : Prop := ∃ (a : Option Addr) (c : Nat), v = .slice a M.length c ∧
  ∀ (i : Nat) (row : List (Bool × ByteArray)), M[i]? = some row → ∃ (G : Addr) (Ai : Option Addr) (ci : Nat), a = some G ∧ W.cell? (G.add i) = some (.slice Ai row.length ci) ∧ Sl W Ai row
theorem RwO.below {W W' : World} {v : Value} {M : List (List (Bool × ByteArray))} (h : RwO W v M) (hb : Below W.heap.size W W') : RwO W' v M := by
  obtain ⟨a, c, rfl, h3⟩ := h
  refine ⟨a, c, rfl, fun i row hi => ?_⟩
  obtain ⟨G, Ai, ci, rfl, c0, h6⟩ := h3 i row hi
  exact ⟨G, Ai, ci, rfl, (hb.cell (World.block_lt_of_cell? _ _ c0)).trans c0, h6.below hb⟩
theorem RwS.toO {W : World} {v : Value} {M : List (List (Bool × ByteArray))} (h : RwS W v M) : RwO W v M := by
  obtain ⟨G, c, rfl, -, -, h3⟩ := h
  refine ⟨some G, c, rfl, fun i row hi => ?_⟩
  obtain ⟨Ai, ci, c0, -, -, h6⟩ := h3 i row hi
  exact ⟨G, some Ai, ci, rfl, c0, h6⟩
theorem RwO.nil (W : World) : RwO W (.slice none 0 0) [] := ⟨none, 0, rfl, fun i row hi => by simp at hi⟩
/-- A table, or none. -/
def TbV (L : List (Bool × ByteArray)) (m : Int) (v : Value) (W : World) : Prop :=
  (limE L m ≠ 0 ∧ v = .slice none 0 0) ∨ (limE L m = 0 ∧ ∃ Ws T, L = VL Ws ∧ v = .slice (some ⟨T, 0, none⟩) (m.toNat + 1) (m.toNat + 1) ∧ RwS W v (tabX Ws m.toNat))
theorem TbV.below {L : List (Bool × ByteArray)} {m : Int} {v : Value} {W W' : World} (h : TbV L m v W) (hb : Below W.heap.size W W') : TbV L m v W' := by
  rcases h with h | ⟨h0, Ws, T, h1, h2, h3⟩
  · exact .inl h
  · exact .inr ⟨h0, Ws, T, h1, h2, h3.below hb⟩
/-- What Table answers. -/
def LTb (L : List (Bool × ByteArray)) (m : Int) (w : World) (e : Ending) (w' : World) : Prop :=
  ∃ v, e = .returned (.tuple #[v, .int .i64 (limE L m)]) ∧ TbV L m v w' ∧ Below w.heap.size w w'
end Go.Proofs.Gv
