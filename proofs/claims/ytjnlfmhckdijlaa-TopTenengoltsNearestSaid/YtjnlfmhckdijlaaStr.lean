/- Rows of bytes: []byte(s), string(b), stores into them. -/
import Derived.Test.YtjnlfmhckdijlaaKit
import Derived.Test.YtjnlfmhckdijlaaProg
import Derived.Laws.IdiomStrings
import Derived.Laws.BytesArg
import Derived.Sort.Row
set_option linter.unusedSimpArgs false
set_option linter.unusedVariables false
namespace Go.Proofs.Gv
open Go Go.RowKit

/-- Block g holds the bytes f 0 .. f (n - 1), and none of them is frozen. -/
structure BRow (W : World) (g n : Nat) (f : Nat → UInt8) : Prop where
  lt : g < W.heap.size
  cell : ∀ j, j < n → W.cell? ⟨g, j, none⟩ = some (.int .u8 (f j).toNat)
  fz : ∀ j, j < n → W.frozen? ⟨g, j, none⟩ = false

/-- The letter at a place. -/
def at' (s : ByteArray) (i : Nat) : UInt8 := s.data.toList.getD i 0
theorem at'_eq {s : ByteArray} {i : Nat} (h : i < s.size) : s[i]'h = at' s i := by
  unfold at'
  have hl : s.data.toList.length = s.size := by simp
  rw [List.getD_eq_getElem?_getD, List.getElem?_eq_getElem (by omega), Option.getD_some]
  rfl

theorem BRow.congr {W : World} {g n : Nat} {f h : Nat → UInt8} (H : BRow W g n f) (e : ∀ j, j < n → f j = h j) : BRow W g n h :=
  ⟨H.lt, fun j hj => by rw [H.cell j hj, e j hj], H.fz⟩
theorem BRow.same {W W' : World} {g n : Nat} {f : Nat → UInt8} (H : BRow W g n f) (e : W'.heap = W.heap := by rfl) : BRow W' g n f :=
  ⟨by rw [e]; exact H.lt, fun j hj => by rw [World.cell?_of_block (w := W) (by rw [e])]; exact H.cell j hj, fun j hj => by
    have := H.fz j hj
    unfold World.frozen? at this ⊢
    rw [e]; exact this⟩
theorem BRow.below {W W' : World} {B g n : Nat} {f : Nat → UInt8} (H : BRow W g n f) (hb : Below B W W') (hg : g < B) : BRow W' g n f :=
  ⟨Nat.lt_of_lt_of_le H.lt hb.size, fun j hj => (hb.cell (p := ⟨g, j, none⟩) hg).trans (H.cell j hj), fun j hj => (hb.frozen (p := ⟨g, j, none⟩) hg).trans (H.fz j hj)⟩
theorem BRow.set {W : World} {g n : Nat} {f : Nat → UInt8} (H : BRow W g n f) (k : Nat) (hk : k < n) (c : UInt8) : BRow (W.setCell ⟨g, k, none⟩ (.int .u8 c.toNat)) g n (fun j => if j = k then c else f j) := by
  refine ⟨by simpa using H.lt, fun j hj => ?_, fun j hj => by rw [World.frozen?_setCell]; exact H.fz j hj⟩
  by_cases e : j = k
  · subst e
    rw [if_pos rfl, World.cell?_setCell_same _ _ _ (H.cell j hj)]
  · rw [if_neg e]
    exact (World.cell?_setCell_other W _ _ _ (fun h => e (by have := congrArg Addr.off h; simpa using this.symm))).trans (H.cell j hj)
/-- The same at a store of a number that is a byte. -/
theorem BRow.set' {W : World} {g n : Nat} {f : Nat → UInt8} (H : BRow W g n f) (k : Nat) (hk : k < n) {V : Int} {c : UInt8} (hV : V = (c.toNat : Int)) : BRow (W.setCell ⟨g, k, none⟩ (.int .u8 V)) g n (fun j => if j = k then c else f j) := by
  subst hV; exact H.set k hk c

theorem map_at' (s : ByteArray) : (⟨((List.range s.size).map (at' s)).toArray⟩ : ByteArray) = s := by
  rcases s with ⟨⟨l⟩⟩
  congr 2
  apply List.ext_getElem
  · simp [ByteArray.size]
  · intro i h1 h2
    simp at h1
    simp [at', ByteArray.size, h2]
end Go.Proofs.Gv
