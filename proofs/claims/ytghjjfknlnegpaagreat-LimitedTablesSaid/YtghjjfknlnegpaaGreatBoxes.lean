/- Boxes of any number of cells. -/
import Derived.Test.YtghjjfknlnegpaaGreatLawKit
set_option linter.unusedSimpArgs false
set_option linter.unusedVariables false
namespace Go.Proofs.Gv
open Go Go.RowKit
/-- A box of any number of cells. -/
structure BC (W : World) (b : Nat) (l : List Value) : Prop where
  lt : b < W.heap.size
  cell : ∀ i v, l[i]? = some v → W.cell? ⟨b, i, none⟩ = some v
  fz : ∀ i, i < l.length → W.frozen? ⟨b, i, none⟩ = false
theorem BC.below {W W1 W' : World} {b : Nat} {l : List Value} (h : BC W b l) (hb : Below W1.heap.size W1 W') (e : W1.heap = W.heap := by rfl) : BC W' b l := by
  have hlt : b < W1.heap.size := by rw [e]; exact h.lt
  have hc : ∀ o, W1.cell? ⟨b, o, none⟩ = W.cell? ⟨b, o, none⟩ := fun o => World.cell?_of_block (by rw [e])
  have hf : ∀ o, W1.frozen? ⟨b, o, none⟩ = W.frozen? ⟨b, o, none⟩ := fun o => by unfold World.frozen?; rw [e]
  exact ⟨Nat.lt_of_lt_of_le hlt hb.size, fun i v hv => (hb.cell (p := ⟨b, i, none⟩) hlt).trans ((hc i).trans (h.cell i v hv)),
    fun i hi => (hb.frozen (p := ⟨b, i, none⟩) hlt).trans ((hf i).trans (h.fz i hi))⟩
theorem BC.alloc {W : World} {b : Nat} {l : List Value} (h : BC W b l) (o : Obj) : BC (W.alloc o) b l :=
  h.below ((Below.refl W.heap.size W).alloc (Nat.le_refl _) o)
theorem BC.set {W : World} {b : Nat} {l : List Value} (h : BC W b l) (i : Nat) (v : Value) (hi : i < l.length) : BC (W.setCell ⟨b, i, none⟩ v) b (l.set i v) := by
  refine ⟨by simpa using h.lt, fun j u hu => ?_, fun j hj => ?_⟩
  · by_cases hij : i = j
    · subst hij
      rw [List.getElem?_set_self hi] at hu
      obtain rfl := Option.some.inj hu
      exact World.cell?_setCell_same _ _ _ (h.cell i _ (List.getElem?_eq_getElem hi))
    · rw [List.getElem?_set_ne hij] at hu
      exact (World.cell?_setCell_other _ _ _ _ (fun e => hij (congrArg Addr.off e))).trans (h.cell j u hu)
  · rw [World.frozen?_setCell]; exact h.fz j (by simpa using hj)
theorem BC.other {W : World} {b c : Nat} {l : List Value} (h : BC W b l) (i : Nat) (v : Value) (hne : b ≠ c) : BC (W.setCell ⟨c, i, none⟩ v) b l :=
  ⟨by simpa using h.lt, fun j u hu => (World.cell?_setCell_other _ _ _ _ (fun e => hne (congrArg Addr.block e).symm)).trans (h.cell j u hu),
    fun j hj => by rw [World.frozen?_setCell]; exact h.fz j hj⟩
theorem BC.of {W : World} {b : Nat} {a : Array Value} {T : TypeId} (h : W.heap[b]? = some (.cells a T (0, 0))) : BC W b a.toList := by
  refine ⟨(Array.getElem?_eq_some_iff.1 h).1, fun i v hv => ?_, fun i hi => ?_⟩
  · rw [Array.getElem?_toList] at hv
    simp [World.cell?, h, hv]
  · simp [World.frozen?, h]
theorem BC.new (W : World) (b : Nat) (a : Array Value) (T : TypeId) (hb : b = W.heap.size) : BC (W.alloc (.cells a T)) b a.toList := by
  subst hb
  exact BC.of (T := T) (heap_alloc_new W (.cells a T))
/-- Boxes, by their cells. -/
def BCs (L : List (Nat × List Value)) (W : World) : Prop := ∀ x ∈ L, BC W x.1 x.2
theorem BCs.nil (W : World) : BCs [] W := fun x h => by cases h
theorem BCs.cons {L : List (Nat × List Value)} {W : World} {b : Nat} {l : List Value} (h : BCs L W) (hb : BC W b l) : BCs ((b, l) :: L) W := fun x hx => by
  rcases List.mem_cons.1 hx with rfl | hx
  · exact hb
  · exact h x hx
theorem BCs.below {L : List (Nat × List Value)} {W W1 W' : World} (h : BCs L W) (hb : Below W1.heap.size W1 W') (e : W1.heap = W.heap := by rfl) : BCs L W' := fun x hx => (h x hx).below hb e
theorem BCs.push {L : List (Nat × List Value)} {W : World} (h : BCs L W) (b : Nat) (a : Array Value) (T : TypeId) (hb : b = W.heap.size) : BCs ((b, a.toList) :: L) (W.alloc (.cells a T)) :=
  BCs.cons (fun x hx => (h x hx).alloc _) (BC.new W b a T hb)
/-- What the walk reads of a box. -/
theorem BC.at {W : World} {b : Nat} {l : List Value} (h : BC W b l) (i : Nat) (v : Value) (e : l[i]? = some v := by rfl) : W.cell? ⟨b, i, none⟩ = some v := h.cell i v e
theorem BC.z {W : World} {b : Nat} {l : List Value} (h : BC W b l) (i : Nat) (e : i < l.length := by decide) : W.frozen? ⟨b, i, none⟩ = false := h.fz i e
theorem BC.z4 {W : World} {b : Nat} {v0 v1 v2 v3 : Value} {l : List Value} (h : BC W b (v0 :: v1 :: v2 :: v3 :: l)) : W.frozen? ⟨b, 0, none⟩ = false ∧ W.frozen? ⟨b, 1, none⟩ = false ∧ W.frozen? ⟨b, 2, none⟩ = false ∧ W.frozen? ⟨b, 3, none⟩ = false := ⟨h.z 0 (by simp), h.z 1 (by simp), h.z 2 (by simp), h.z 3 (by simp)⟩
end Go.Proofs.Gv
