/- Boxes of any number of cells, in a row; stores of several cells. -/
import Derived.Test.YtghjjfknlnegpaaGreatBoxes
import Derived.Test.YtghjjfknlnegpaaGreatFront
set_option linter.unusedSimpArgs false
set_option linter.unusedVariables false
namespace Go.Proofs.Gv
open Go Go.RowKit
/-- Boxes, by their cells, one behind the other. -/
def Bs : List (Nat × List Value) → World → Prop
  | [], _ => True
  | x :: L, W => BC W x.1 x.2 ∧ Bs L W
theorem Bs.below : ∀ {L : List (Nat × List Value)} {W W1 W' : World}, Bs L W → Below W1.heap.size W1 W' → W1.heap = W.heap → Bs L W'
  | [], _, _, _, _, _, _ => trivial
  | _ :: _, _, _, _, h, hb, e => ⟨h.1.below hb e, h.2.below hb e⟩
theorem Bs.bel {L : List (Nat × List Value)} {W W' : World} (h : Bs L W) (hb : Below W.heap.size W W') : Bs L W' := h.below hb rfl
theorem Bs.alloc : ∀ {L : List (Nat × List Value)} {W : World}, Bs L W → ∀ o : Obj, Bs L (W.alloc o)
  | [], _, _, _ => trivial
  | _ :: _, _, h, o => ⟨h.1.alloc o, h.2.alloc o⟩
theorem Bs.push {L : List (Nat × List Value)} {W : World} (h : Bs L W) (b : Nat) (a : Array Value) (T : TypeId) (hb : b = W.heap.size) : Bs ((b, a.toList) :: L) (W.alloc (.cells a T)) :=
  ⟨BC.new W b a T hb, h.alloc _⟩
/-- Several cells of one box, stored one behind the other. -/
def setCs (c : Nat) : World → Nat → List Value → World
  | W, _, [] => W
  | W, o, v :: vs => setCs c (W.setCell ⟨c, o, none⟩ v) (o + 1) vs
theorem Below.setCs {n c : Nat} (hn : n ≤ c) {w : World} : ∀ (vs : List Value) (W : World) (o : Nat), Below n w W → Below n w (setCs c W o vs)
  | [], _, _, h => h
  | v :: vs, _, o, h => Below.setCs hn vs _ (o + 1) (h.setCell (p := ⟨c, o, none⟩) hn v)
theorem BC.otherCs {b c : Nat} (hne : b ≠ c) {l : List Value} : ∀ (vs : List Value) (W : World) (o : Nat), BC W b l → BC (setCs c W o vs) b l
  | [], _, _, h => h
  | v :: vs, _, o, h => BC.otherCs hne vs _ (o + 1) (h.other o v hne)
def setL : List Value → Nat → List Value → List Value
  | l, _, [] => l
  | l, o, v :: vs => setL (l.set o v) (o + 1) vs
theorem BC.setCs {b : Nat} : ∀ (vs : List Value) (W : World) (l : List Value) (o : Nat), o + vs.length ≤ l.length → BC W b l → BC (setCs b W o vs) b (setL l o vs)
  | [], _, _, _, _, h => h
  | v :: vs, _, l, o, hl, h => BC.setCs vs _ (l.set o v) (o + 1) (by simp at hl ⊢; omega) (h.set o v (by simp at hl; omega))
theorem Bs.cons {L : List (Nat × List Value)} {W : World} {b : Nat} {l : List Value} (h : BC W b l) (hs : Bs L W) : Bs ((b, l) :: L) W := ⟨h, hs⟩
/-- The box c stands at place i, and nowhere else; k cells fit into it. -/
def Bs.ap0 : List (Nat × List Value) → Nat → Prop
  | [], _ => True
  | x :: L, c => ¬ x.1 = c ∧ Bs.ap0 L c
def Bs.ap : List (Nat × List Value) → Nat → Nat → Nat → Prop
  | [], _, _, _ => False
  | x :: L, 0, c, k => x.1 = c ∧ k ≤ x.2.length ∧ Bs.ap0 L c
  | x :: L, i + 1, c, k => ¬ x.1 = c ∧ Bs.ap L i c k
def Bs.put : List (Nat × List Value) → Nat → Nat → List Value → List (Nat × List Value)
  | [], _, _, _ => []
  | x :: L, 0, o, vs => (x.1, setL x.2 o vs) :: L
  | x :: L, i + 1, o, vs => x :: Bs.put L i o vs
theorem Bs.other0 {c : Nat} (vs : List Value) (o : Nat) : ∀ {L : List (Nat × List Value)} {W : World}, Bs L W → Bs.ap0 L c → Bs L (Gv.setCs c W o vs)
  | [], _, _, _ => trivial
  | _ :: _, _, h, ha => ⟨BC.otherCs ha.1 vs _ o h.1, Bs.other0 vs o h.2 ha.2⟩
theorem Bs.store {c : Nat} (vs : List Value) (o : Nat) : ∀ (i : Nat) {L : List (Nat × List Value)} {W : World}, Bs L W → Bs.ap L i c (o + vs.length) → Bs (Bs.put L i o vs) (Gv.setCs c W o vs)
  | _, [], _, _, ha => ha.elim
  | 0, x :: L, W, h, ha => by
    obtain ⟨h1, h2, h3⟩ := ha
    refine ⟨?_, Bs.other0 vs o h.2 h3⟩
    show BC _ x.1 _
    rw [← h1]
    exact BC.setCs vs W x.2 o h2 h.1
  | i + 1, x :: L, W, h, ha => ⟨BC.otherCs ha.1 vs _ o h.1, Bs.store vs o i h.2 ha.2⟩
theorem Clm.bs {m : Nat} {W B : World} {L : List (Nat × List Value)} (h : Bs L W) (hm : W.heap.size ≤ m) (hB : Below W.heap.size W B) (u : Clm m B) : Bs L u.x := h.bel (u.old hm hB)
end Go.Proofs.Gv
