/- integer.Print. -/
import Derived.Test.YtghjjfknlnegpaaGreatShelf
import Derived.Shelf.Small.Bits
import Derived.Test.YtghjjfknlnegpaaGreatKitP
import Derived.Test.YtghjjfknlnegpaaGreatStrP
import Derived.Lib.Builder
import Derived.Shelf.Strings.Builder1
import Derived.Test.YtghjjfknlnegpaaGreatRows
import Derived.RegionTactic
import Derived.Test.YtghjjfknlnegpaaGreatIntKit
set_option linter.unusedSimpArgs false
set_option linter.unusedVariables false
namespace Go.Proofs.Gv
open Go Go.RowKit

/-- Texts as values. -/
def strV (P : List (List UInt8)) : List Value := P.map fun l => .string ⟨l.toArray⟩
/-- A natural in memory stays where a row of texts grows. -/
theorem Nt.grown {W w1 : World} {B : Nat} {A : Option Addr} {c x : Nat} {v : Value} {n : Nat} {P : List (List UInt8)} {tmp : Obj} (h : Nt W W.heap.size A c x) (ho : W.ownsRow B 9 1 v n (strV P)) (hn0 : P = [] → v = .slice none 0 0) (hg : (W.alloc tmp).grownBy w1 v.ownBlock) : Nt w1 w1.heap.size A c x := by
  refine ⟨h.le, h.bd, fun hn => ?_⟩
  obtain ⟨g, e, hgl, hc⟩ := h.rd hn
  have hne : some g ≠ v.ownBlock := by
    intro e2
    rcases ho.2 with ⟨rfl, _⟩ | ⟨g', cap, cur, rfl, _, hg', _, _, _, ht⟩
    · cases e2
    · have : g = g' := by injection e2
      subst this
      have hP : P ≠ [] := fun hP => by have := hn0 hP; cases this
      obtain ⟨a, P', rfl⟩ : ∃ a P', P = a :: P' := by
        cases P with
        | nil => exact absurd rfl hP
        | cons a P' => exact ⟨a, P', rfl⟩
      have h1 := hc 0 hn
      have h2 : (cur.toList.take (n * 1))[0]? = some (.string ⟨a.toArray⟩) := by rw [ht]; rfl
      have h3 : cur[0]? = some (.string ⟨a.toArray⟩) := by
        rw [List.getElem?_take] at h2
        split at h2
        · simpa using h2
        · cases h2
      have h4 : W.cell? ⟨g, 0, none⟩ = some (.string ⟨a.toArray⟩) := by simp [World.cell?, hg', h3]
      rw [h1] at h4
      cases h4
  have hsz : W.heap.size + 1 ≤ w1.heap.size := by have := hg.size; simpa using this
  refine ⟨g, e, by omega, fun j hj => ?_⟩
  have hb : w1.heap[g]? = W.heap[g]? := by
    rw [hg.block g (by simp; omega) hne]
    exact Below.heap_alloc W tmp g hgl
  rw [World.cell?_of_block (w := W) (by exact hb)]
  exact hc j hj

end Go.Proofs.Gv
