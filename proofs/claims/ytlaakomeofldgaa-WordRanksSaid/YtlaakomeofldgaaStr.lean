/- Rows of bytes: []byte(s), string(b), stores into them. -/
import Derived.Test.YtlaakomeofldgaaKit
import Derived.Test.YtlaakomeofldgaaProg
import Derived.Laws.IdiomStrings
import Derived.Laws.BytesArg
import Derived.Sort.Row
namespace Go.Proofs.Gv
open Go Go.RowKit

/-- Block g holds the bytes f 0 .. f (n - 1), and none of them is frozen. -/
structure BRow (W : World) (g n : Nat) (f : Nat → UInt8) : Prop where
  lt : g < W.heap.size
  cell : ∀ j, j < n → W.cell? ⟨g, j, none⟩ = some (.int .u8 (f j).toNat)
  fz : ∀ j, j < n → W.frozen? ⟨g, j, none⟩ = false

/-- The letter at a place. -/
def at' (s : ByteArray) (i : Nat) : UInt8 := s.data.toList.getD i 0
theorem at'_eq {s : ByteArray} {i : Nat} (h : i < s.size) : s[i]'h = at' s i := by
  unfold at'
  have hl : s.data.toList.length = s.size := by simp
  rw [List.getD_eq_getElem?_getD, List.getElem?_eq_getElem (by omega), Option.getD_some]
  rfl

theorem BRow.congr {W : World} {g n : Nat} {f h : Nat → UInt8} (H : BRow W g n f) (e : ∀ j, j < n → f j = h j) : BRow W g n h :=
  ⟨H.lt, fun j hj => by rw [H.cell j hj, e j hj], H.fz⟩
theorem BRow.same {W W' : World} {g n : Nat} {f : Nat → UInt8} (H : BRow W g n f) (e : W'.heap = W.heap := by rfl) : BRow W' g n f :=
  ⟨by rw [e]; exact H.lt, fun j hj => by rw [World.cell?_of_block (w := W) (by rw [e])]; exact H.cell j hj, fun j hj => by
    have := H.fz j hj
    unfold World.frozen? at this ⊢
    rw [e]; exact this⟩
theorem BRow.below {W W' : World} {B g n : Nat} {f : Nat → UInt8} (H : BRow W g n f) (hb : Below B W W') (hg : g < B) : BRow W' g n f :=
  ⟨Nat.lt_of_lt_of_le H.lt hb.size, fun j hj => (hb.cell (p := ⟨g, j, none⟩) hg).trans (H.cell j hj), fun j hj => (hb.frozen (p := ⟨g, j, none⟩) hg).trans (H.fz j hj)⟩
theorem BRow.set {W : World} {g n : Nat} {f : Nat → UInt8} (H : BRow W g n f) (k : Nat) (hk : k < n) (c : UInt8) : BRow (W.setCell ⟨g, k, none⟩ (.int .u8 c.toNat)) g n (fun j => if j = k then c else f j) := by
  refine ⟨by simpa using H.lt, fun j hj => ?_, fun j hj => by rw [World.frozen?_setCell]; exact H.fz j hj⟩
  by_cases e : j = k
  · subst e
    rw [if_pos rfl, World.cell?_setCell_same _ _ _ (H.cell j hj)]
  · rw [if_neg e]
    exact (World.cell?_setCell_other W _ _ _ (fun h => e (by have := congrArg Addr.off h; simpa using this.symm))).trans (H.cell j hj)
/-- The same at a store of a number that is a byte. -/
theorem BRow.set' {W : World} {g n : Nat} {f : Nat → UInt8} (H : BRow W g n f) (k : Nat) (hk : k < n) {V : Int} {c : UInt8} (hV : V = (c.toNat : Int)) : BRow (W.setCell ⟨g, k, none⟩ (.int .u8 V)) g n (fun j => if j = k then c else f j) := by
  subst hV; exact H.set k hk c

/-- The world behind []byte(s). -/
def byW (w : World) (s : ByteArray) : World :=
  w.drew.alloc (.cells (bytesRow s (grownCap w s.size 0 5)) 5 ((bytesRow s (grownCap w s.size 0 5)).size, (bytesRow s (grownCap w s.size 0 5)).size + 1))
def byC (w : World) (s : ByteArray) : Nat := grownCap w s.size 0 5
theorem conv_to (w : World) (s : ByteArray) : (Go.convert 9 63 (.string s)).run Try.prog w = .ok (.slice (some ⟨w.heap.size, 0, none⟩) s.size (byC w s)) (byW w s) :=
  run_bytes_of_string w 9 63 5 s Try.underlying9 Try.underlying63 Try.underlying5
theorem byW_size (w : World) (s : ByteArray) : (byW w s).heap.size = w.heap.size + 1 := by unfold byW; simp
theorem byW_below (w : World) (s : ByteArray) : Below w.heap.size w (byW w s) := by
  unfold byW
  exact ((Below.refl _ w).drew).alloc (Nat.le_refl _) _
theorem byW_row (w : World) (s : ByteArray) : BRow (byW w s) w.heap.size s.size (at' s) := by
  have hnew : (byW w s).heap[w.heap.size]? = some (.cells (bytesRow s (grownCap w s.size 0 5)) 5 ((bytesRow s (grownCap w s.size 0 5)).size, (bytesRow s (grownCap w s.size 0 5)).size + 1)) := by
    unfold byW; exact heap_alloc_new w.drew _
  have hsz : s.size ≤ (bytesRow s (grownCap w s.size 0 5)).size := by
    unfold bytesRow; rw [Array.size_append, Array.size_map]; exact Nat.le_add_right _ _
  refine ⟨by rw [byW_size]; omega, fun j hj => ?_, fun j hj => ?_⟩
  · simp only [World.cell?, hnew]
    have hj' : j < s.data.size := hj
    have : (bytesRow s (grownCap w s.size 0 5))[j]? = some (.int .u8 (at' s j).toNat) := by
      unfold bytesRow at'
      rw [Array.getElem?_append_left (by simpa using hj')]
      simp [Array.getElem?_eq_getElem hj']
    simpa using this
  · simp only [World.frozen?, hnew]
    simp
    omega
theorem conv_back (W : World) (g c n : Nat) (f : Nat → UInt8) (h : BRow W g n f) :
    (Go.convert 63 9 (.slice (some ⟨g, 0, none⟩) n c)).run Try.prog W = .ok (.string ⟨((List.range n).map f).toArray⟩) W := by
  have := run_convert_bytes_back (P := Try.prog) W 63 9 5 ⟨g, 0, none⟩ c ((List.range n).map f) Try.underlying63 Try.underlying5 Try.underlying9 (fun j hj => by
    have hj' : j < n := by simpa using hj
    have := h.cell j hj'
    have e : (⟨g, 0, none⟩ : Addr).add j = ⟨g, j, none⟩ := by unfold Addr.add; split <;> simp_all
    rw [e, this]; simp)
  simpa using this
end Go.Proofs.Gv
