/- All words of a length, as they are made: plain laws. -/
import Derived.Test.YtjnlfmhckdijlaaLNextP
import Derived.Laws.AppendOwn
set_option linter.unusedSimpArgs false
set_option linter.unusedVariables false
namespace Go.Proofs.Gv
open Go Go.RowKit

/-- The first m words of n letters, as cells. -/
def fw (q n m : Nat) : List Value := (List.range m).map fun i => .string (unS q n i)
theorem fw_succ (q n m : Nat) : fw q n (m + 1) = fw q n m ++ [.string (unS q n m)] := by unfold fw; rw [List.range_succ, List.map_append]; rfl
theorem fw_get {q n m i : Nat} (h : i < m) : (fw q n m)[i]? = some (.string (unS q n i)) := by
  unfold fw
  rw [List.getElem?_map, List.getElem?_range h]; rfl
/-- The slice with block g holds the words f 0 .. f (n - 1). -/
structure SRow (W : World) (g n : Nat) (f : Nat → ByteArray) : Prop where
  lt : g < W.heap.size
  cell : ∀ j, j < n → W.cell? ⟨g, j, none⟩ = some (.string (f j))
theorem SRow.below {W W' : World} {B g n : Nat} {f : Nat → ByteArray} (H : SRow W g n f) (hb : Below B W W') (hg : g < B) : SRow W' g n f :=
  ⟨Nat.lt_of_lt_of_le H.lt hb.size, fun j hj => (hb.cell (p := ⟨g, j, none⟩) hg).trans (H.cell j hj)⟩
theorem SRow.next {W W' : World} {g n : Nat} {f : Nat → ByteArray} (H : SRow W g n f) (hb : Below W.heap.size W W') : SRow W' g n f := H.below hb H.lt
/-- An owned row of words is read. -/
theorem SRow.of_owns {W : World} {B : Nat} {v : Value} {q n m : Nat} (h : W.ownsRow B 9 1 v m (fw q n m)) (hm : 0 < m) :
    ∃ g c, v = .slice (some ⟨g, 0, none⟩) m c ∧ B ≤ g ∧ SRow W g m (unS q n) := by
  rcases h.2 with ⟨_, hn⟩ | ⟨g, cap, cur, hv, hB, hg, hn, _, hs, ht⟩
  · omega
  · refine ⟨g, cap, hv, hB, ?_, fun j hj => ?_⟩
    · rcases Nat.lt_or_ge g W.heap.size with h1 | h1
      · exact h1
      · rw [Array.getElem?_eq_none h1] at hg; cases hg
    · have h1 : cur[j]? = some (.string (unS q n j)) := by
        have h2 : (cur.toList.take (m * 1))[j]? = some (.string (unS q n j)) := by rw [ht]; exact fw_get hj
        rw [List.getElem?_take, if_pos (by omega)] at h2
        simpa using h2
      simp [World.cell?, hg, h1]
theorem below_app {n₀ : Nat} {a w w1 : World} {e : TypeId} {size k : Nat} {v : Value} {xs : List Value} {tmp : Obj} (h : Below n₀ a w) (hn : n₀ ≤ w.heap.size) (ho : w.ownsRow n₀ e size v k xs) (hg : (w.alloc tmp).grownBy w1 v.ownBlock) : Below n₀ a w1 :=
  (h.alloc hn tmp).grown hg (by simp; omega) (fun k e => (ho.lt k e).1)
theorem infoStrW : (Try.prog.info? 9).map (fun i => (i.zero, i.size, i.bytes)) = some (some (.string ⟨#[]⟩), 1, 16) := by kernel_rfl
/-- One letter of all letters. -/
theorem ltr_ext (c : Nat) (h : c < 16) : ((⟨#[48, 49, 50, 51, 52, 53, 54, 55, 56, 57, 97, 98, 99, 100, 101, 102]⟩ : ByteArray).extract c (c + 1)) = ⟨#[ltr c]⟩ := by
  have : ∀ c, c < 16 → ((⟨#[48, 49, 50, 51, 52, 53, 54, 55, 56, 57, 97, 98, 99, 100, 101, 102]⟩ : ByteArray).extract c (c + 1)) = ⟨#[ltr c]⟩ := by decide
  exact this c h
end Go.Proofs.Gv
