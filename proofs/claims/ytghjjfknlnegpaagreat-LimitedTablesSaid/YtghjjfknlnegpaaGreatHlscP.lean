/- Maps of free nodes as functions. -/
import Derived.Test.YtghjjfknlnegpaaGreatMixP
import Derived.Deep.AppendLies
import Derived.Test.YtghjjfknlnegpaaGreatMapK
import Derived.Test.YtghjjfknlnegpaaGreatOwnBP
import Derived.Test.YtghjjfknlnegpaaGreatLawP
import Derived.Test.YtghjjfknlnegpaaGreatFront
import Derived.Lib.AppendZeros
import Derived.Deep.Slices
set_option linter.unusedSimpArgs false
set_option linter.unusedVariables false
namespace Go.Proofs.Gv
open Go Go.RowKit Go.Maps

/-- A slice value of merges, wherever it lies. -/
def MrgA (W : World) (v : Value) (ps : List (Int × Int)) : Prop := ∃ (a : Option Addr) (c : Nat), v = .slice a ps.length c ∧ ∀ (i : Nat) (x : Value), (mrgV ps)[i]? = some x → ∃ A, a = some A ∧ W.cell? (A.add i) = some x
theorem MrgAt.a {W : World} {v : Value} {ps : List (Int × Int)} (h : MrgAt W v ps) : MrgA W v ps := by
  obtain ⟨a, c, rfl, hat⟩ := h
  refine ⟨a, c, rfl, fun i x hi => ?_⟩
  obtain ⟨g, rfl, hc⟩ := hat i x hi
  refine ⟨_, rfl, ?_⟩
  have e : (⟨g, 0, none⟩ : Addr).add i = ⟨g, i, none⟩ := by unfold Addr.add; by_cases h : i = 0 <;> simp [h]
  rw [e]; exact hc
theorem MrgA.below {W W' : World} {v : Value} {ps : List (Int × Int)} (h : MrgA W v ps) (hb : Below W.heap.size W W') : MrgA W' v ps := by
  obtain ⟨a, c, rfl, hat⟩ := h
  refine ⟨a, c, rfl, fun i x hi => ?_⟩
  obtain ⟨A, rfl, hc⟩ := hat i x hi
  exact ⟨A, rfl, (hb.cell (World.block_lt_of_cell? W _ hc)).trans hc⟩
end Go.Proofs.Gv

namespace Go.Proofs.Gv
open Go Go.RowKit Go.Maps

/-- Block g holds these numbers. -/
structure NR (W : World) (g : Nat) (ds : List Nat) : Prop where
  lt : g < W.heap.size
  at_ : ∀ (i d : Nat), ds[i]? = some d → W.cell? ⟨g, i, none⟩ = some (.int .i64 (d : Int))
theorem NR.below {W W' : World} {g : Nat} {ds : List Nat} (h : NR W g ds) (hb : Below W.heap.size W W') : NR W' g ds :=
  ⟨Nat.lt_of_lt_of_le h.lt hb.size, fun i d hi => (hb.cell (p := ⟨g, i, none⟩) h.lt).trans (h.at_ i d hi)⟩
theorem NR.row {W : World} {g c : Nat} {ds : List Nat} (h : NR W g ds) {n : Nat} (hn : n = ds.length) : RowAt W (.slice (some ⟨g, 0, none⟩) n c) (natV ds) := by
  subst hn
  refine ⟨some ⟨g, 0, none⟩, c, by rw [natV_len], fun i x hi => ⟨g, rfl, ?_⟩⟩
  unfold natV at hi
  rw [List.getElem?_map] at hi
  cases hd : ds[i]? with
  | none => rw [hd] at hi; cases hi
  | some k => rw [hd] at hi; cases hi; exact h.at_ i k hd
theorem Sl.take {W : World} {A : Addr} {L : List (Bool × ByteArray)} (h : Sl W (some A) L) (t : Nat) : Sl W (some A) (L.take t) := fun i n s hi => by
  rw [List.getElem?_take] at hi
  split at hi
  · exact h i n s hi
  · cases hi
theorem Sl.drop {W : World} {A : Addr} {L : List (Bool × ByteArray)} (h : Sl W (some A) L) (t : Nat) : Sl W (some (A.add (t * 2))) (L.drop t) := fun i n s hi => by
  rw [List.getElem?_drop] at hi
  obtain ⟨A', e, h1, h2⟩ := h (t + i) n s hi
  cases e
  refine ⟨_, rfl, ?_, ?_⟩
  · rw [Go.Deep.add_add, ← Nat.add_mul]; exact h1
  · rw [Go.Deep.add_add, show t * 2 + (i * 2 + 1) = (t + i) * 2 + 1 by omega]; exact h2
end Go.Proofs.Gv
