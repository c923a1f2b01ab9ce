/- Integers as values: sign and bytes. -/
import Derived.Test.YtglgiofjgfbfgaaNumber
import Derived.Test.YtglgiofjgfbfgaaCompareP
set_option linter.unusedSimpArgs false
set_option linter.unusedVariables false
namespace Go.Proofs.Gv
open Go Go.RowKit

/-- The value of a sign and bytes. -/
def iv (ng : Bool) (s : ByteArray) : Int := if ng then -(bv s.data.toList : Int) else bv s.data.toList
/-- The sign and the bytes of a number. -/
def sgn (z : Int) : Bool := decide (z < 0)
def V (z : Int) : Value := .agg #[.bool (sgn z), .string (mg z.natAbs)]
/-- The canonical integer z comes back; nothing that was there has turned. -/
def RetI (w : World) (z : Int) (e : Ending) (w' : World) : Prop := e = .returned (.agg #[.bool (sgn z), .string (mg z.natAbs)]) ∧ Below w.heap.size w w'

theorem sg_eq (ng : Bool) (n : Nat) : sg ng n = sgn (if ng then -(n : Int) else n) := by
  unfold sg sgn
  cases ng
  · simp
  · by_cases e : n = 0
    · subst e; simp
    · have h : -(n : Int) < 0 := by omega
      have h2 : (n == 0) = false := by simpa using e
      rw [h2, if_pos rfl, decide_eq_true h]; rfl
theorem abs_eq (ng : Bool) (n : Nat) : (if ng then -(n : Int) else n).natAbs = n := by cases ng <;> simp
theorem RetInt.toI {w : World} {ng : Bool} {n : Nat} {z : Int} {e : Ending} {w' : World} (h : RetInt w ng n e w') (hz : z = if ng then -(n : Int) else n) : RetI w z e w' := by
  subst hz
  refine ⟨?_, h.2⟩
  rw [h.1, sg_eq, abs_eq]

theorem mg_list (n : Nat) : (mg n).data.toList = byt n := by simp [mg]
theorem bv_mg (n : Nat) : bv (mg n).data.toList = n := by rw [mg_list, bv_byt]
theorem iv_V (z : Int) : iv (sgn z) (mg z.natAbs) = z := by
  unfold iv sgn
  rw [bv_mg]
  by_cases h : z < 0
  · simp [h]; omega
  · simp [h]; omega
theorem size_mg {n k : Nat} (h : n < 256 ^ k) : (mg n).size ≤ k := by
  have := byt_len_le k n h
  have e : (mg n).size = (byt n).length := by simp [mg, ByteArray.size]
  omega
theorem iv_abs (ng : Bool) (s : ByteArray) : (iv ng s).natAbs = bv s.data.toList := by unfold iv; cases ng <;> simp
theorem iv_lt (ng : Bool) (s : ByteArray) : (iv ng s).natAbs < 256 ^ s.size := by
  rw [iv_abs]
  have := bv_lt s.data.toList
  rwa [show s.data.toList.length = s.size by simp] at this
theorem nlen_bv {s : ByteArray} : nlen (bv s.data.toList) ≤ (s.size + 3) / 4 := by
  apply nlen_le_of_lt
  have := bv_lt s.data.toList
  rw [show s.data.toList.length = s.size by simp] at this
  exact Nat.lt_of_lt_of_le this (pow256_le _)
/-- number at a natural of known value. -/
theorem number_nt (ng : Bool) (A : Option Addr) (c x : Nat) (w : World) (h : Nt w w.heap.size A c x) (hn : nlen x ≤ 10000000) :
    Calls Try.prog 44 #[.bool ng, .slice A (nlen x) c] w (RetInt w ng x) := by
  have := number_any ng A (nlen x) c (D x) w h.rd (fun i _ => D_lt x i) h.le h.bd hn
  rwa [val_D, Nat.mod_eq_of_lt (lt_pow_nlen x)] at this
/-- A block of two cells. -/
theorem blk_facts {w : World} {B t : Nat} {a b : Value} (h : w.heap[B]? = some (.cells #[a, b] t (0, 0))) :
    w.cell? ⟨B, 0, none⟩ = some a ∧ w.cell? ⟨B, 1, none⟩ = some b ∧ w.frozen? ⟨B, 0, none⟩ = false ∧ w.frozen? ⟨B, 1, none⟩ = false ∧ B < w.heap.size :=
  ⟨by simp [World.cell?, h], by simp [World.cell?, h], by simp [World.frozen?, h], by simp [World.frozen?, h], (Array.getElem?_eq_some_iff.1 h).1⟩
/-- The call's first blocks are these; nothing that was there has turned. -/
def Own (w W : World) (bs : List Obj) : Prop := (∀ i o, bs[i]? = some o → W.heap[w.heap.size + i]? = some o) ∧ Below w.heap.size w W
theorem Own.nil (w : World) : Own w w [] := ⟨fun i o h => by simp at h, Below.refl _ _⟩
theorem Own.push {w W : World} {bs : List Obj} (h : Own w W bs) (hs : W.heap.size = w.heap.size + bs.length) (o : Obj) : Own w (W.alloc o) (bs ++ [o]) := by
  refine ⟨fun i u hi => ?_, h.2.alloc (by omega) o⟩
  by_cases e : i = bs.length
  · subst e
    rw [List.getElem?_append_right (Nat.le_refl _)] at hi
    simp at hi
    subst hi
    rw [← hs]
    exact heap_alloc_new W o
  · have hlt : i < bs.length := by
      have := (List.getElem?_eq_some_iff.1 hi).1
      simp at this; omega
    rw [List.getElem?_append_left hlt] at hi
    have := h.1 i u hi
    exact (Below.heap_alloc W o _ (Array.getElem?_eq_some_iff.1 this).1).trans this
theorem Own.one (w : World) (a : Obj) : Own w (w.alloc a) [a] := (Own.nil w).push (by simp) a
theorem Own.two (w : World) (a b : Obj) : Own w ((w.alloc a).alloc b) [a, b] := (Own.one w a).push (by simp) b
theorem Own.three (w : World) (a b c : Obj) : Own w (((w.alloc a).alloc b).alloc c) [a, b, c] := (Own.two w a b).push (by simp) c
theorem Own.next {w W W1 W' : World} {bs : List Obj} (h : Own w W bs) (hb : Below W1.heap.size W1 W') (e1 : W1.heap = W.heap := by rfl) (e2 : W1.os = W.os := by rfl) (e3 : W1.tape = W.tape := by rfl) (e4 : W1.output = W.output := by rfl) :
    Own w W' bs := by
  have hb' : Below W.heap.size W W' := ⟨hb.os.trans e2, hb.tape.trans e3, hb.output.trans e4, by rw [← e1]; exact hb.size, fun k hk => by rw [← e1]; exact hb.block k (by rw [e1]; exact hk)⟩
  exact ⟨fun i o hi => (hb'.block _ (Array.getElem?_eq_some_iff.1 (h.1 i o hi)).1).trans (h.1 i o hi), h.2.trans (hb'.mono h.2.size)⟩
theorem Own.blk {w W : World} {bs : List Obj} (h : Own w W bs) (i n : Nat) {t : Nat} {a b : Value} (hi : bs[i]? = some (.cells #[a, b] t (0, 0))) (hn : n = w.heap.size + i) :
    W.cell? ⟨n, 0, none⟩ = some a ∧ W.cell? ⟨n, 1, none⟩ = some b ∧ W.frozen? ⟨n, 0, none⟩ = false ∧ W.frozen? ⟨n, 1, none⟩ = false ∧ n < W.heap.size := by
  subst hn
  exact blk_facts (h.1 i _ hi)
theorem Own.below {w W : World} {bs : List Obj} (h : Own w W bs) : Below w.heap.size w W := h.2
/-- Behind the two stores of a result into block n. -/
theorem Own.stored {w W : World} {bs : List Obj} (h : Own w W bs) (n : Nat) (hn : w.heap.size ≤ n) (a b : Value) : Below w.heap.size w ((W.setCell ⟨n, 0, none⟩ a).setCell ⟨n, 1, none⟩ b) :=
  (h.2.setCell (p := ⟨n, 0, none⟩) hn a).setCell (p := ⟨n, 1, none⟩) hn b
/-- In a world with the same heap. -/
theorem Nt.same {w w' : World} {A : Option Addr} {c x : Nat} (h : Nt w w.heap.size A c x) (e : w'.heap = w.heap := by rfl) : Nt w' w'.heap.size A c x :=
  ⟨h.le, h.bd, fun hn => by
    obtain ⟨g, e1, e2, e3⟩ := h.rd hn
    exact ⟨g, e1, by rw [e]; exact e2, fun j hj => by rw [World.cell?_of_block (w := w) (by rw [e])]; exact e3 j hj⟩⟩
end Go.Proofs.Gv
