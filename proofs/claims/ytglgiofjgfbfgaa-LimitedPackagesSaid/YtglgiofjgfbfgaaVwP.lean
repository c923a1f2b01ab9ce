/- Boxes of any number of cells, in a row; stores of several cells. -/
import Derived.Test.YtglgiofjgfbfgaaRowUP
import Derived.Test.YtglgiofjgfbfgaaFront
import Derived.Test.YtglgiofjgfbfgaaRange2P
set_option linter.unusedSimpArgs false
set_option linter.unusedVariables false
namespace Go.Proofs.Gv
open Go Go.RowKit
/-- Boxes, by their cells, one behind the other. -/
def Bs : List (Nat × List Value) → World → Prop
  | [], _ => True
  | x :: L, W => BC W x.1 x.2 ∧ Bs L W
theorem Bs.below : ∀ {L : List (Nat × List Value)} {W W1 W' : World}, Bs L W → Below W1.heap.size W1 W' → W1.heap = W.heap → Bs L W'
  | [], _, _, _, _, _, _ => trivial
  | _ :: _, _, _, _, h, hb, e => ⟨h.1.below hb e, h.2.below hb e⟩
theorem Bs.bel {L : List (Nat × List Value)} {W W' : World} (h : Bs L W) (hb : Below W.heap.size W W') : Bs L W' := h.below hb rfl
theorem Bs.alloc : ∀ {L : List (Nat × List Value)} {W : World}, Bs L W → ∀ o : Obj, Bs L (W.alloc o)
  | [], _, _, _ => trivial
  | _ :: _, _, h, o => ⟨h.1.alloc o, h.2.alloc o⟩
theorem Bs.push {L : List (Nat × List Value)} {W : World} (h : Bs L W) (b : Nat) (a : Array Value) (T : TypeId) (hb : b = W.heap.size) : Bs ((b, a.toList) :: L) (W.alloc (.cells a T)) :=
  ⟨BC.new W b a T hb, h.alloc _⟩
/-- Several cells of one box, stored one behind the other. -/
def setCs (c : Nat) : World → Nat → List Value → World
  | W, _, [] => W
  | W, o, v :: vs => setCs c (W.setCell ⟨c, o, none⟩ v) (o + 1) vs
theorem Below.setCs {n c : Nat} (hn : n ≤ c) {w : World} : ∀ (vs : List Value) (W : World) (o : Nat), Below n w W → Below n w (setCs c W o vs)
  | [], _, _, h => h
  | v :: vs, _, o, h => Below.setCs hn vs _ (o + 1) (h.setCell (p := ⟨c, o, none⟩) hn v)
theorem BC.otherCs {b c : Nat} (hne : b ≠ c) {l : List Value} : ∀ (vs : List Value) (W : World) (o : Nat), BC W b l → BC (setCs c W o vs) b l
  | [], _, _, h => h
  | v :: vs, _, o, h => BC.otherCs hne vs _ (o + 1) (h.other o v hne)
def setL : List Value → Nat → List Value → List Value
  | l, _, [] => l
  | l, o, v :: vs => setL (l.set o v) (o + 1) vs
theorem BC.setCs {b : Nat} : ∀ (vs : List Value) (W : World) (l : List Value) (o : Nat), o + vs.length ≤ l.length → BC W b l → BC (setCs b W o vs) b (setL l o vs)
  | [], _, _, _, _, h => h
  | v :: vs, _, l, o, hl, h => BC.setCs vs _ (l.set o v) (o + 1) (by simp at hl ⊢; omega) (h.set o v (by simp at hl; omega))
theorem Bs.cons {L : List (Nat × List Value)} {W : World} {b : Nat} {l : List Value} (h : BC W b l) (hs : Bs L W) : Bs ((b, l) :: L) W := ⟨h, hs⟩
/-- The box c stands at place i, and nowhere else; k cells fit into it. -/
def Bs.ap0 : List (Nat × List Value) → Nat → Prop
  | [], _ => True
  | x :: L, c => ¬ x.1 = c ∧ Bs.ap0 L c
def Bs.ap : List (Nat × List Value) → Nat → Nat → Nat → Prop
  | [], _, _, _ => False
  | x :: L, 0, c, k => x.1 = c ∧ k ≤ x.2.length ∧ Bs.ap0 L c
  | x :: L, i + 1, c, k => ¬ x.1 = c ∧ Bs.ap L i c k
def Bs.put : List (Nat × List Value) → Nat → Nat → List Value → List (Nat × List Value)
  | [], _, _, _ => []
  | x :: L, 0, o, vs => (x.1, setL x.2 o vs) :: L
  | x :: L, i + 1, o, vs => x :: Bs.put L i o vs
theorem Bs.other0 {c : Nat} (vs : List Value) (o : Nat) : ∀ {L : List (Nat × List Value)} {W : World}, Bs L W → Bs.ap0 L c → Bs L (Gv.setCs c W o vs)
  | [], _, _, _ => trivial
  | _ :: _, _, h, ha => ⟨BC.otherCs ha.1 vs _ o h.1, Bs.other0 vs o h.2 ha.2⟩
theorem Bs.store {c : Nat} (vs : List Value) (o : Nat) : ∀ (i : Nat) {L : List (Nat × List Value)} {W : World}, Bs L W → Bs.ap L i c (o + vs.length) → Bs (Bs.put L i o vs) (Gv.setCs c W o vs)
  | _, [], _, _, ha => ha.elim
  | 0, x :: L, W, h, ha => by
    obtain ⟨h1, h2, h3⟩ := ha
    refine ⟨?_, Bs.other0 vs o h.2 h3⟩
    show BC _ x.1 _
    rw [← h1]
    exact BC.setCs vs W x.2 o h2 h.1
  | i + 1, x :: L, W, h, ha => ⟨BC.otherCs ha.1 vs _ o h.1, Bs.store vs o i h.2 ha.2⟩
theorem Clm.bs {m : Nat} {W B : World} {L : List (Nat × List Value)} (h : Bs L W) (hm : W.heap.size ≤ m) (hB : Below W.heap.size W B) (u : Clm m B) : Bs L u.x := h.bel (u.old hm hB)
end Go.Proofs.Gv

namespace Go.Proofs.Gv
open Go Go.RowKit

theorem BC.heap {W W' : World} {b : Nat} {l : List Value} (h : BC W b l) (e : W'.heap[b]? = W.heap[b]?) (hs : W.heap.size ≤ W'.heap.size) : BC W' b l :=
  ⟨Nat.lt_of_lt_of_le h.lt hs, fun i v hv => (World.cell?_of_block e).trans (h.cell i v hv), fun i hi => by
    have := h.fz i hi
    unfold World.frozen? at this ⊢
    rw [e]; exact this⟩
theorem BC.obj {W : World} {b : Nat} {v : Value} {l : List Value} (h : BC W b (v :: l)) : ∃ o, W.heap[b]? = some o ∧ o.isCells = true := by
  have h0 := h.cell 0 v rfl
  unfold World.cell? at h0
  cases ho : W.heap[b]? with
  | none => simp [ho] at h0
  | some o =>
    refine ⟨o, rfl, ?_⟩
    simp only [ho] at h0
    cases o <;> first | rfl | (simp at h0; done)
/-- What a round may turn: the box L, and the row that it points to. -/
structure KpL (L : Nat) (W W' : World) : Prop where
  size : W.heap.size ≤ W'.heap.size
  same : ∀ k o, W.heap[k]? = some o → o.isCells = true → k ≠ L → (∀ n c, W.cell? ⟨L, 0, none⟩ ≠ some (.slice (some ⟨k, 0, none⟩) n c)) → W'.heap[k]? = some o
  row : ∀ k n c, W'.cell? ⟨L, 0, none⟩ = some (.slice (some ⟨k, 0, none⟩) n c) → (∃ n' c', W.cell? ⟨L, 0, none⟩ = some (.slice (some ⟨k, 0, none⟩) n' c')) ∨ (W.heap.size ≤ k ∧ k < W'.heap.size)
theorem KpL.trans {L : Nat} {A B C : World} (h : KpL L A B) (k : KpL L B C) : KpL L A C := by
  refine ⟨Nat.le_trans h.size k.size, fun i o ho hc hL hr => ?_, fun i n c hi => ?_⟩
  · refine k.same i o (h.same i o ho hc hL hr) hc hL fun n c hB => ?_
    rcases h.row i n c hB with ⟨n', c', h2⟩ | h2
    · exact hr n' c' h2
    · have := (Array.getElem?_eq_some_iff.1 ho).1; omega
  · rcases k.row i n c hi with ⟨n', c', h2⟩ | h2
    · rcases h.row i n' c' h2 with h4 | h4
      · exact .inl h4
      · exact .inr ⟨h4.1, Nat.lt_of_lt_of_le h4.2 k.size⟩
    · exact .inr ⟨Nat.le_trans h.size h2.1, h2.2⟩
/-- The box L and its row lie apart from the blocks zs. -/
structure Vw (L : Nat) (zs : List Nat) (W : World) : Prop where
  lt : L < W.heap.size
  ok : ∀ k n c, W.cell? ⟨L, 0, none⟩ = some (.slice (some ⟨k, 0, none⟩) n c) → k < W.heap.size ∧ k ∉ zs
  ne : L ∉ zs
theorem Vw.below {L : Nat} {zs : List Nat} {W W' : World} (h : Vw L zs W) (hb : Below W.heap.size W W') : Vw L zs W' := by
  refine ⟨Nat.lt_of_lt_of_le h.lt hb.size, fun k n c hk => ?_, h.ne⟩
  rw [hb.cell (p := ⟨L, 0, none⟩) h.lt] at hk
  exact ⟨Nat.lt_of_lt_of_le (h.ok k n c hk).1 hb.size, (h.ok k n c hk).2⟩
theorem Vw.new {L : Nat} {zs : List Nat} {W W' : World} (h : Vw L zs W) (hb : Below W.heap.size W W') {b : Nat} (hn : W.heap.size ≤ b) : Vw L (b :: zs) W' := by
  refine ⟨Nat.lt_of_lt_of_le h.lt hb.size, fun k n c hk => ?_, fun hm => ?_⟩
  · rw [hb.cell (p := ⟨L, 0, none⟩) h.lt] at hk
    obtain ⟨h1, h2⟩ := h.ok k n c hk
    refine ⟨Nat.lt_of_lt_of_le h1 hb.size, fun hm => ?_⟩
    rcases List.mem_cons.1 hm with h3 | h3
    · omega
    · exact h2 h3
  · rcases List.mem_cons.1 hm with h3 | h3
    · have := h.lt; omega
    · exact h.ne h3
theorem Vw.setCs {L c : Nat} {zs : List Nat} (hc : c ∈ zs) : ∀ (vs : List Value) (W : World) (o : Nat), Vw L zs W → Vw L zs (setCs c W o vs)
  | [], _, _, h => h
  | v :: vs, W, o, h => by
    refine Vw.setCs hc vs _ (o + 1) ⟨by simpa using h.lt, fun k n d hk => ?_, h.ne⟩
    have hLc : L ≠ c := fun e => h.ne (e ▸ hc)
    rw [World.cell?_setCell_other _ _ _ _ (fun e => hLc (congrArg Addr.block e).symm)] at hk
    have := h.ok k n d hk
    exact ⟨by simpa using this.1, this.2⟩
theorem Vw.kp {L : Nat} {zs : List Nat} {W W' : World} (h : Vw L zs W) (hk : KpL L W W') (hlt : ∀ x ∈ zs, x < W.heap.size) : Vw L zs W' := by
  refine ⟨Nat.lt_of_lt_of_le h.lt hk.size, fun k n c hc => ?_, h.ne⟩
  rcases hk.row k n c hc with ⟨n', c', h2⟩ | h2
  · exact ⟨Nat.lt_of_lt_of_le (h.ok k n' c' h2).1 hk.size, (h.ok k n' c' h2).2⟩
  · exact ⟨h2.2, fun hm => by have := hlt k hm; omega⟩
end Go.Proofs.Gv
