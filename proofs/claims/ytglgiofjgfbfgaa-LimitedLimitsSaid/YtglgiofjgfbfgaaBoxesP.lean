/- The contracts of integers, said of values. -/
import Derived.Test.YtglgiofjgfbfgaaIntFP
import Derived.Deep.LoopGhost
import Derived.OpenShut
set_option linter.unusedSimpArgs false
set_option linter.unusedVariables false
namespace Go.Proofs.Gv
open Go Go.RowKit

/-- Sign and bytes stand for the integer z. -/
structure Rp (n : Bool) (s : ByteArray) (z : Int) : Prop where
  val : iv n s = z
  sz : s.size ≤ 1000000
theorem p256 (N : Nat) : (256 : Nat) ^ N = 2 ^ (8 * N) := by rw [Nat.pow_mul]
theorem szB {x : Nat} (N : Nat) (h : x < 2 ^ (8 * N)) : (mg x).size ≤ N := size_mg (by rw [p256]; exact h)
theorem Rp.V {z : Int} (N : Nat) (h : z.natAbs < 2 ^ N) (hN : N ≤ 7900000) : Rp (sgn z) (mg z.natAbs) z :=
  ⟨iv_V z, Nat.le_trans (szB (N / 8 + 1) (Nat.lt_of_lt_of_le h (Nat.pow_le_pow_right (by decide) (by omega)))) (by omega)⟩
theorem bv_emp : bv (⟨#[]⟩ : ByteArray).data.toList = 0 := by rw [← mg_zero, bv_mg]
theorem Rp.zero : Rp false ⟨#[]⟩ 0 := ⟨by unfold iv; rw [bv_emp]; rfl, by decide⟩
theorem Rp.lt {n : Bool} {s : ByteArray} {z : Int} (h : Rp n s z) {k : Nat} (hk : s.size ≤ k) : z.natAbs < 2 ^ (8 * k) := by
  rw [← h.val, ← p256]
  exact Nat.lt_of_lt_of_le (iv_lt n s) (Nat.pow_le_pow_right (by decide) hk)
theorem Rp.neg {n : Bool} {s : ByteArray} {z : Int} (h : Rp n s z) (hz : z < 0) : n = true ∧ 0 < bv s.data.toList := by
  have hv := h.val
  unfold iv at hv
  cases n
  · simp at hv; omega
  · simp at hv; exact ⟨rfl, by omega⟩
theorem Rp.pos {n : Bool} {s : ByteArray} {z : Int} (h : Rp n s z) (hz : 0 ≤ z) : n = true → bv s.data.toList = 0 := by
  have hv := h.val
  unfold iv at hv
  rintro rfl
  simp at hv; omega

section
variable {na nb : Bool} {sa sb : ByteArray} {a b : Int}
theorem cAdd (ha : Rp na sa a) (hb : Rp nb sb b) (W : World) :
    Calls Try.prog 42 #[.agg #[.bool na, .string sa], .agg #[.bool nb, .string sb]] W fun e w' => e = .returned (.agg #[.bool (sgn (a + b)), .string (mg (a + b).natAbs)]) ∧ Below W.heap.size W w' := by
  have := Add_any na nb sa sb W (Nat.le_trans ha.sz (by decide)) (Nat.le_trans hb.sz (by decide))
  rwa [ha.val, hb.val] at this
theorem cSub (ha : Rp na sa a) (hb : Rp nb sb b) (W : World) :
    Calls Try.prog 21 #[.agg #[.bool na, .string sa], .agg #[.bool nb, .string sb]] W fun e w' => e = .returned (.agg #[.bool (sgn (a - b)), .string (mg (a - b).natAbs)]) ∧ Below W.heap.size W w' := by
  have := Sub_any na nb sa sb W (Nat.le_trans ha.sz (by decide)) (Nat.le_trans hb.sz (by decide))
  rwa [ha.val, hb.val] at this
theorem cMul (ha : Rp na sa a) (hb : Rp nb sb b) (W : World) :
    Calls Try.prog 13 #[.agg #[.bool na, .string sa], .agg #[.bool nb, .string sb]] W fun e w' => e = .returned (.agg #[.bool (sgn (a * b)), .string (mg (a * b).natAbs)]) ∧ Below W.heap.size W w' := by
  have := Mul_any na nb sa sb W (Nat.le_trans ha.sz (by decide)) (Nat.le_trans hb.sz (by decide))
  rwa [ha.val, hb.val] at this
theorem cCmp (ha : Rp na sa a) (hb : Rp nb sb b) (W : World) :
    Calls Try.prog 20 #[.agg #[.bool na, .string sa], .agg #[.bool nb, .string sb]] W fun e w' => e = .returned (.int .i64 (cmpI a b)) ∧ Below W.heap.size W w' := by
  have := Compare_any na nb sa sb W (Nat.le_trans ha.sz (by decide)) (Nat.le_trans hb.sz (by decide))
  rwa [ha.val, hb.val] at this
theorem canon_V (z : Int) : Canon (sgn z) (mg z.natAbs) := by
  unfold Canon
  rw [bv_mg, sg_eq]
  refine ⟨?_, rfl⟩
  congr 1
  unfold sgn
  by_cases h : z < 0
  · simp [h]; omega
  · simp [h]; omega
end
end Go.Proofs.Gv

namespace Go.Proofs.Gv
open Go Go.RowKit

theorem cmpI_cases (a b : Int) : (a < b ∧ cmpI a b = -1 ∧ cmpI b a = 1) ∨ (a = b ∧ cmpI a b = 0 ∧ cmpI b a = 0) ∨ (b < a ∧ cmpI a b = 1 ∧ cmpI b a = -1) := by
  rcases Int.lt_trichotomy a b with h | h | h
  · exact .inl ⟨h, cmpI_lt h, cmpI_gt h⟩
  · subst h; exact .inr (.inl ⟨rfl, cmpI_eq a, cmpI_eq a⟩)
  · exact .inr (.inr ⟨h, cmpI_gt h, cmpI_lt h⟩)

theorem cmpI_lt0 (a b : Int) : decide (cmpI a b < 0) = decide (a < b) := by
  rcases cmpI_cases a b with ⟨h, e, _⟩ | ⟨h, e, _⟩ | ⟨h, e, _⟩ <;> rw [e]
  · rw [show decide (a < b) = true from decide_eq_true h]; rfl
  · rw [show decide (a < b) = false from decide_eq_false (by omega)]; rfl
  · rw [show decide (a < b) = false from decide_eq_false (by omega)]; rfl
theorem cmpI_gt0 (a b : Int) : decide (0 < cmpI a b) = decide (b < a) := by
  rcases cmpI_cases a b with ⟨h, e, _⟩ | ⟨h, e, _⟩ | ⟨h, e, _⟩ <;> rw [e]
  · rw [show decide (b < a) = false from decide_eq_false (by omega)]; rfl
  · rw [show decide (b < a) = false from decide_eq_false (by omega)]; rfl
  · rw [show decide (b < a) = true from decide_eq_true h]; rfl
end Go.Proofs.Gv

namespace Go.Proofs.Gv
open Go Go.RowKit

theorem cOf (z : Int) (h1 : -9223372036854775808 ≤ z) (h2 : z < 9223372036854775808) (W : World) : Calls Try.prog 12 #[.int .i64 z] W fun e w' => e = .returned (.agg #[.bool (sgn z), .string (mg z.natAbs)]) ∧ Below W.heap.size W w' := Of_any z W h1 h2
end Go.Proofs.Gv

namespace Go.Proofs.Gv
open Go Go.RowKit
/-- A box of any number of cells. -/
structure BC (W : World) (b : Nat) (l : List Value) : Prop where
  lt : b < W.heap.size
  cell : ∀ i v, l[i]? = some v → W.cell? ⟨b, i, none⟩ = some v
  fz : ∀ i, i < l.length → W.frozen? ⟨b, i, none⟩ = false
theorem BC.below {W W1 W' : World} {b : Nat} {l : List Value} (h : BC W b l) (hb : Below W1.heap.size W1 W') (e : W1.heap = W.heap := by rfl) : BC W' b l := by
  have hlt : b < W1.heap.size := by rw [e]; exact h.lt
  have hc : ∀ o, W1.cell? ⟨b, o, none⟩ = W.cell? ⟨b, o, none⟩ := fun o => World.cell?_of_block (by rw [e])
  have hf : ∀ o, W1.frozen? ⟨b, o, none⟩ = W.frozen? ⟨b, o, none⟩ := fun o => by unfold World.frozen?; rw [e]
  exact ⟨Nat.lt_of_lt_of_le hlt hb.size, fun i v hv => (hb.cell (p := ⟨b, i, none⟩) hlt).trans ((hc i).trans (h.cell i v hv)),
    fun i hi => (hb.frozen (p := ⟨b, i, none⟩) hlt).trans ((hf i).trans (h.fz i hi))⟩
theorem BC.alloc {W : World} {b : Nat} {l : List Value} (h : BC W b l) (o : Obj) : BC (W.alloc o) b l :=
  h.below ((Below.refl W.heap.size W).alloc (Nat.le_refl _) o)
theorem BC.set {W : World} {b : Nat} {l : List Value} (h : BC W b l) (i : Nat) (v : Value) (hi : i < l.length) : BC (W.setCell ⟨b, i, none⟩ v) b (l.set i v) := by
  refine ⟨by simpa using h.lt, fun j u hu => ?_, fun j hj => ?_⟩
  · by_cases hij : i = j
    · subst hij
      rw [List.getElem?_set_self hi] at hu
      obtain rfl := Option.some.inj hu
      exact World.cell?_setCell_same _ _ _ (h.cell i _ (List.getElem?_eq_getElem hi))
    · rw [List.getElem?_set_ne hij] at hu
      exact (World.cell?_setCell_other _ _ _ _ (fun e => hij (congrArg Addr.off e))).trans (h.cell j u hu)
  · rw [World.frozen?_setCell]; exact h.fz j (by simpa using hj)
theorem BC.other {W : World} {b c : Nat} {l : List Value} (h : BC W b l) (i : Nat) (v : Value) (hne : b ≠ c) : BC (W.setCell ⟨c, i, none⟩ v) b l :=
  ⟨by simpa using h.lt, fun j u hu => (World.cell?_setCell_other _ _ _ _ (fun e => hne (congrArg Addr.block e).symm)).trans (h.cell j u hu),
    fun j hj => by rw [World.frozen?_setCell]; exact h.fz j hj⟩
theorem BC.of {W : World} {b : Nat} {a : Array Value} {T : TypeId} (h : W.heap[b]? = some (.cells a T (0, 0))) : BC W b a.toList := by
  refine ⟨(Array.getElem?_eq_some_iff.1 h).1, fun i v hv => ?_, fun i hi => ?_⟩
  · rw [Array.getElem?_toList] at hv
    simp [World.cell?, h, hv]
  · simp [World.frozen?, h]
theorem BC.new (W : World) (b : Nat) (a : Array Value) (T : TypeId) (hb : b = W.heap.size) : BC (W.alloc (.cells a T)) b a.toList := by
  subst hb
  exact BC.of (T := T) (heap_alloc_new W (.cells a T))
/-- Boxes, by their cells. -/
def BCs (L : List (Nat × List Value)) (W : World) : Prop := ∀ x ∈ L, BC W x.1 x.2
theorem BCs.nil (W : World) : BCs [] W := fun x h => by cases h
theorem BCs.cons {L : List (Nat × List Value)} {W : World} {b : Nat} {l : List Value} (h : BCs L W) (hb : BC W b l) : BCs ((b, l) :: L) W := fun x hx => by
  rcases List.mem_cons.1 hx with rfl | hx
  · exact hb
  · exact h x hx
theorem BCs.below {L : List (Nat × List Value)} {W W1 W' : World} (h : BCs L W) (hb : Below W1.heap.size W1 W') (e : W1.heap = W.heap := by rfl) : BCs L W' := fun x hx => (h x hx).below hb e
theorem BCs.push {L : List (Nat × List Value)} {W : World} (h : BCs L W) (b : Nat) (a : Array Value) (T : TypeId) (hb : b = W.heap.size) : BCs ((b, a.toList) :: L) (W.alloc (.cells a T)) :=
  BCs.cons (fun x hx => (h x hx).alloc _) (BC.new W b a T hb)
/-- Two cells of a box set one behind the other. -/
theorem BC.set2 {W : World} {b : Nat} {l : List Value} (h : BC W b l) (i j : Nat) (u v : Value) (hi : i < l.length) (hj : j < l.length) :
    BC ((W.setCell ⟨b, i, none⟩ u).setCell ⟨b, j, none⟩ v) b ((l.set i u).set j v) := (h.set i u hi).set j v (by simpa using hj)
/-- What the walk reads of a box. -/
theorem BC.at {W : World} {b : Nat} {l : List Value} (h : BC W b l) (i : Nat) (v : Value) (e : l[i]? = some v := by rfl) : W.cell? ⟨b, i, none⟩ = some v := h.cell i v e
theorem BC.z {W : World} {b : Nat} {l : List Value} (h : BC W b l) (i : Nat) (e : i < l.length := by decide) : W.frozen? ⟨b, i, none⟩ = false := h.fz i e
theorem BC.z2 {W : World} {b : Nat} {v0 v1 : Value} {l : List Value} (h : BC W b (v0 :: v1 :: l)) : W.frozen? ⟨b, 0, none⟩ = false ∧ W.frozen? ⟨b, 1, none⟩ = false := ⟨h.z 0 (by simp), h.z 1 (by simp)⟩
theorem BC.z4 {W : World} {b : Nat} {v0 v1 v2 v3 : Value} {l : List Value} (h : BC W b (v0 :: v1 :: v2 :: v3 :: l)) : W.frozen? ⟨b, 0, none⟩ = false ∧ W.frozen? ⟨b, 1, none⟩ = false ∧ W.frozen? ⟨b, 2, none⟩ = false ∧ W.frozen? ⟨b, 3, none⟩ = false := ⟨h.z 0 (by simp), h.z 1 (by simp), h.z 2 (by simp), h.z 3 (by simp)⟩
end Go.Proofs.Gv
