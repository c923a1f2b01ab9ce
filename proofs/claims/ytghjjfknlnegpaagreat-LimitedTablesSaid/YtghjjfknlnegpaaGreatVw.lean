/- An iterator's own boxes beside a row that its caller appends to between the rounds. -/
import Derived.Test.YtghjjfknlnegpaaGreatBs
import Derived.Test.YtghjjfknlnegpaaGreatRangeP
set_option linter.unusedSimpArgs false
set_option linter.unusedVariables false
namespace Go.Proofs.Gv
open Go Go.RowKit

theorem BC.heap {W W' : World} {b : Nat} {l : List Value} (h : BC W b l) (e : W'.heap[b]? = W.heap[b]?) (hs : W.heap.size ≤ W'.heap.size) : BC W' b l :=
  ⟨Nat.lt_of_lt_of_le h.lt hs, fun i v hv => (World.cell?_of_block e).trans (h.cell i v hv), fun i hi => by
    have := h.fz i hi
    unfold World.frozen? at this ⊢
    rw [e]; exact this⟩
/-- What a round may turn: the box L, and the row that it points to. -/
structure KpL (L : Nat) (W W' : World) : Prop where
  size : W.heap.size ≤ W'.heap.size
  same : ∀ k o, W.heap[k]? = some o → o.isCells = true → k ≠ L → (∀ n c, W.cell? ⟨L, 0, none⟩ ≠ some (.slice (some ⟨k, 0, none⟩) n c)) → W'.heap[k]? = some o
  row : ∀ k n c, W'.cell? ⟨L, 0, none⟩ = some (.slice (some ⟨k, 0, none⟩) n c) → (∃ n' c', W.cell? ⟨L, 0, none⟩ = some (.slice (some ⟨k, 0, none⟩) n' c')) ∨ (W.heap.size ≤ k ∧ k < W'.heap.size)
theorem KpL.trans {L : Nat} {A B C : World} (h : KpL L A B) (k : KpL L B C) : KpL L A C := by
  refine ⟨Nat.le_trans h.size k.size, fun i o ho hc hL hr => ?_, fun i n c hi => ?_⟩
  · refine k.same i o (h.same i o ho hc hL hr) hc hL fun n c hB => ?_
    rcases h.row i n c hB with ⟨n', c', h2⟩ | h2
    · exact hr n' c' h2
    · have := (Array.getElem?_eq_some_iff.1 ho).1; omega
  · rcases k.row i n c hi with ⟨n', c', h2⟩ | h2
    · rcases h.row i n' c' h2 with h4 | h4
      · exact .inl h4
      · exact .inr ⟨h4.1, Nat.lt_of_lt_of_le h4.2 k.size⟩
    · exact .inr ⟨Nat.le_trans h.size h2.1, h2.2⟩
/-- The box L and its row lie apart from the blocks zs. -/
structure Vw (L : Nat) (zs : List Nat) (W : World) : Prop where
  lt : L < W.heap.size
  ok : ∀ k n c, W.cell? ⟨L, 0, none⟩ = some (.slice (some ⟨k, 0, none⟩) n c) → k < W.heap.size ∧ k ∉ zs
  ne : L ∉ zs
theorem Vw.below {L : Nat} {zs : List Nat} {W W' : World} (h : Vw L zs W) (hb : Below W.heap.size W W') : Vw L zs W' := by
  refine ⟨Nat.lt_of_lt_of_le h.lt hb.size, fun k n c hk => ?_, h.ne⟩
  rw [hb.cell (p := ⟨L, 0, none⟩) h.lt] at hk
  exact ⟨Nat.lt_of_lt_of_le (h.ok k n c hk).1 hb.size, (h.ok k n c hk).2⟩
theorem Vw.new {L : Nat} {zs : List Nat} {W W' : World} (h : Vw L zs W) (hb : Below W.heap.size W W') {b : Nat} (hn : W.heap.size ≤ b) : Vw L (b :: zs) W' := by
  refine ⟨Nat.lt_of_lt_of_le h.lt hb.size, fun k n c hk => ?_, fun hm => ?_⟩
  · rw [hb.cell (p := ⟨L, 0, none⟩) h.lt] at hk
    obtain ⟨h1, h2⟩ := h.ok k n c hk
    refine ⟨Nat.lt_of_lt_of_le h1 hb.size, fun hm => ?_⟩
    rcases List.mem_cons.1 hm with h3 | h3
    · omega
    · exact h2 h3
  · rcases List.mem_cons.1 hm with h3 | h3
    · have := h.lt; omega
    · exact h.ne h3
theorem Vw.setCs {L c : Nat} {zs : List Nat} (hc : c ∈ zs) : ∀ (vs : List Value) (W : World) (o : Nat), Vw L zs W → Vw L zs (setCs c W o vs)
  | [], _, _, h => h
  | v :: vs, W, o, h => by
    refine Vw.setCs hc vs _ (o + 1) ⟨by simpa using h.lt, fun k n d hk => ?_, h.ne⟩
    have hLc : L ≠ c := fun e => h.ne (e ▸ hc)
    rw [World.cell?_setCell_other _ _ _ _ (fun e => hLc (congrArg Addr.block e).symm)] at hk
    have := h.ok k n d hk
    exact ⟨by simpa using this.1, this.2⟩
theorem Vw.kp {L : Nat} {zs : List Nat} {W W' : World} (h : Vw L zs W) (hk : KpL L W W') (hlt : ∀ x ∈ zs, x < W.heap.size) : Vw L zs W' := by
  refine ⟨Nat.lt_of_lt_of_le h.lt hk.size, fun k n c hc => ?_, h.ne⟩
  rcases hk.row k n c hc with ⟨n', c', h2⟩ | h2
  · exact ⟨Nat.lt_of_lt_of_le (h.ok k n' c' h2).1 hk.size, (h.ok k n' c' h2).2⟩
  · exact ⟨h2.2, fun hm => by have := hlt k hm; omega⟩
end Go.Proofs.Gv
