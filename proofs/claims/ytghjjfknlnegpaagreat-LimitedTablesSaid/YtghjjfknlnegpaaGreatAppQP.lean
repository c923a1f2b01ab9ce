/- slices.Backward: the iterator, over numbers and over rows of items. -/
import Derived.Test.YtghjjfknlnegpaaGreatHrowP
import Derived.Test.YtghjjfknlnegpaaGreatOwnBP
import Derived.Test.YtghjjfknlnegpaaGreatVw
import Derived.Maps.OwnIn
import Derived.RangeFuncBox
set_option linter.unusedSimpArgs false
set_option linter.unusedVariables false
namespace Go.Proofs.Gv
open Go Go.RowKit Go.Maps
attribute [local go_sem] Oper.semAt_some

/-- What a round keeps: the iterator's box and its row. -/
structure KpB (bk br : Nat) (A B : World) : Prop where
  size : A.heap.size ≤ B.heap.size
  same : ∀ k, k = bk ∨ k = br → B.heap[k]? = A.heap[k]?
theorem KpB.trans {bk br : Nat} {A B C : World} (h : KpB bk br A B) (k : KpB bk br B C) : KpB bk br A C := ⟨Nat.le_trans h.size k.size, fun i hi => (k.same i hi).trans (h.same i hi)⟩
/-- The row at which the iterator stands. -/
def BwR (W : World) (bk br c : Nat) (vs : List Value) : Prop := W.cell? ⟨bk, 0, none⟩ = some (.slice (some ⟨br, 0, none⟩) vs.length c) ∧ ∀ i v, vs[i]? = some v → W.cell? ⟨br, i, none⟩ = some v
theorem BwR.kp {W W' : World} {bk br c : Nat} {vs : List Value} (h : BwR W bk br c vs) (hk : KpB bk br W W') : BwR W' bk br c vs :=
  ⟨(World.cell?_of_block (hk.same _ (.inl rfl))).trans h.1, fun i v hi => (World.cell?_of_block (hk.same _ (.inr rfl))).trans (h.2 i v hi)⟩
theorem BwR.below {W W' : World} {bk br c : Nat} {vs : List Value} (h : BwR W bk br c vs) (hb : Below W.heap.size W W') : BwR W' bk br c vs :=
  ⟨(hb.cell (World.block_lt_of_cell? _ _ h.1)).trans h.1, fun i v hi => (hb.cell (World.block_lt_of_cell? _ _ (h.2 i v hi))).trans (h.2 i v hi)⟩
end Go.Proofs.Gv

namespace Go.Proofs.Gv
open Go Go.RowKit
theorem ownsRow_form {W : World} {base : Nat} {e : TypeId} {size n : Nat} {v : Value} {xs : List Value} (h : W.ownsRow base e size v n xs) {k : Nat} (hk : v.ownBlock = some k) : ∃ c, v = .slice (some ⟨k, 0, none⟩) n c ∧ base ≤ k ∧ ∃ o, W.heap[k]? = some o ∧ o.isCells = true := by
  rcases h.2 with ⟨rfl, _⟩ | ⟨g, cap, cur, rfl, hb, hg, _⟩
  · cases hk
  · obtain rfl : g = k := by simpa [Value.ownBlock] using hk
    exact ⟨cap, rfl, hb, _, hg, rfl⟩
structure AppD (base L : Nat) (e : TypeId) (size : Nat) (n : Nat) (ys : List Value) (v' : Value) (W W' : World) : Prop where
  kp : KpL L W W'
  box : BC W' L [v']
  row : W'.ownsRow base e size v' n ys
  os : W'.os = W.os
  tape : W'.tape = W.tape
  output : W'.output = W.output
  same : ∀ k, k < base → k ≠ L → W'.heap[k]? = W.heap[k]?
  keeps : ∀ m, KeepsFrom m W W'
theorem AppD.below {base L n m : Nat} {e : TypeId} {size : Nat} {ys : List Value} {v' : Value} {w W W' : World} (h : AppD base L e size n ys v' W W') (hw : Below m w W) (hm : m ≤ L) (hmb : m ≤ base) : Below m w W' :=
  ⟨h.os.trans hw.os, h.tape.trans hw.tape, h.output.trans hw.output, Nat.le_trans hw.size h.kp.size, fun k hk => (h.same k (by omega) (by omega)).trans (hw.block k hk)⟩
end Go.Proofs.Gv
