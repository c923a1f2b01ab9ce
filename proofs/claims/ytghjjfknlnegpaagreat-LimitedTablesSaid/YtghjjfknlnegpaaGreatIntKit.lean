/- Integers as values: sign and bytes. -/
import Derived.Test.YtghjjfknlnegpaaGreatCompareP
import Derived.Test.YtghjjfknlnegpaaGreatRows
import Derived.Test.YtghjjfknlnegpaaGreatKitP
set_option linter.unusedSimpArgs false
set_option linter.unusedVariables false
namespace Go.Proofs.Gv
open Go Go.RowKit

/-- The value of a sign and bytes. -/
def iv (ng : Bool) (s : ByteArray) : Int := if ng then -(bv s.data.toList : Int) else bv s.data.toList
/-- The sign and the bytes of a number. -/
def sgn (z : Int) : Bool := decide (z < 0)
def V (z : Int) : Value := .agg #[.bool (sgn z), .string (mg z.natAbs)]
theorem mg_list (n : Nat) : (mg n).data.toList = byt n := by simp [mg]
theorem bv_mg (n : Nat) : bv (mg n).data.toList = n := by rw [mg_list, bv_byt]
theorem iv_V (z : Int) : iv (sgn z) (mg z.natAbs) = z := by
  unfold iv sgn
  rw [bv_mg]
  by_cases h : z < 0
  · simp [h]; omega
  · simp [h]; omega
theorem size_mg {n k : Nat} (h : n < 256 ^ k) : (mg n).size ≤ k := by
  have := byt_len_le k n h
  have e : (mg n).size = (byt n).length := by simp [mg, ByteArray.size]
  omega
theorem iv_abs (ng : Bool) (s : ByteArray) : (iv ng s).natAbs = bv s.data.toList := by unfold iv; cases ng <;> simp
theorem iv_lt (ng : Bool) (s : ByteArray) : (iv ng s).natAbs < 256 ^ s.size := by
  rw [iv_abs]
  have := bv_lt s.data.toList
  rwa [show s.data.toList.length = s.size by simp] at this
/-- A block of two cells. -/
theorem blk_facts {w : World} {B t : Nat} {a b : Value} (h : w.heap[B]? = some (.cells #[a, b] t (0, 0))) :
    w.cell? ⟨B, 0, none⟩ = some a ∧ w.cell? ⟨B, 1, none⟩ = some b ∧ w.frozen? ⟨B, 0, none⟩ = false ∧ w.frozen? ⟨B, 1, none⟩ = false ∧ B < w.heap.size :=
  ⟨by simp [World.cell?, h], by simp [World.cell?, h], by simp [World.frozen?, h], by simp [World.frozen?, h], (Array.getElem?_eq_some_iff.1 h).1⟩
/-- The call's first blocks are these; nothing that was there has turned. -/
def Own (w W : World) (bs : List Obj) : Prop := (∀ i o, bs[i]? = some o → W.heap[w.heap.size + i]? = some o) ∧ Below w.heap.size w W
theorem Own.nil (w : World) : Own w w [] := ⟨fun i o h => by simp at h, Below.refl _ _⟩
theorem Own.push {w W : World} {bs : List Obj} (h : Own w W bs) (hs : W.heap.size = w.heap.size + bs.length) (o : Obj) : Own w (W.alloc o) (bs ++ [o]) := by
  refine ⟨fun i u hi => ?_, h.2.alloc (by omega) o⟩
  by_cases e : i = bs.length
  · subst e
    rw [List.getElem?_append_right (Nat.le_refl _)] at hi
    simp at hi
    subst hi
    rw [← hs]
    exact heap_alloc_new W o
  · have hlt : i < bs.length := by
      have := (List.getElem?_eq_some_iff.1 hi).1
      simp at this; omega
    rw [List.getElem?_append_left hlt] at hi
    have := h.1 i u hi
    exact (Below.heap_alloc W o _ (Array.getElem?_eq_some_iff.1 this).1).trans this
theorem Own.one (w : World) (a : Obj) : Own w (w.alloc a) [a] := (Own.nil w).push (by simp) a
theorem Own.below {w W : World} {bs : List Obj} (h : Own w W bs) : Below w.heap.size w W := h.2
/-- In a world with the same heap. -/
theorem Nt.same {w w' : World} {A : Option Addr} {c x : Nat} (h : Nt w w.heap.size A c x) (e : w'.heap = w.heap := by rfl) : Nt w' w'.heap.size A c x :=
  ⟨h.le, h.bd, fun hn => by
    obtain ⟨g, e1, e2, e3⟩ := h.rd hn
    exact ⟨g, e1, by rw [e]; exact e2, fun j hj => by rw [World.cell?_of_block (w := w) (by rw [e])]; exact e3 j hj⟩⟩
end Go.Proofs.Gv
