/- Nodes in order: by weight, then by number. -/
import Derived.Test.YtlbgkhjelbadmaaRowSP
import Derived.Test.YtlbgkhjelbadmaaShelf
import Derived.LoopN
import Derived.Test.YtlbgkhjelbadmaaAlpDP
import Derived.Maps.RangeWalk
import Derived.Maps.OwnSet
import Derived.Maps.OwnOps
import Derived.Deep.LoopGhost
import Derived.RangeFuncWrites
import Derived.RangeFuncNested
import Derived.RangeFuncLeaves
import Derived.RangeFuncBox
set_option linter.unusedSimpArgs false
set_option linter.unusedVariables false
namespace Go.Proofs.Gv
open Go Go.RowKit

/-- An integer that is not negative, as it is written. -/
def VN (z : Nat) : Value := .agg #[.bool false, .string (mg z)]
theorem VN_rp {z : Nat} {N : Nat} (h : z < 2 ^ N) (hN : N ≤ 7900000) : Rp false (mg z) (z : Int) := by
  have := Rp.V (z := (z : Int)) N (by rwa [Int.natAbs_natCast]) hN
  rwa [Int.natAbs_natCast, show sgn (z : Int) = false from decide_eq_false (by omega)] at this
end Go.Proofs.Gv

namespace Go.Proofs.Gv

/-- Free nodes taken one behind the other. -/
inductive Tk : List (Nat × Nat) → List (Nat × Bool) → List (Nat × Bool) → Prop
  | nil (l : List (Nat × Bool)) : Tk [] l l
  | cons {k w : Nat} {ns : List (Nat × Nat)} {l l' : List (Nat × Bool)} : l[k]? = some (w, true) → Tk ns (l.set k (w, false)) l' → Tk ((k, w) :: ns) l l'
structure Took (l l' : List (Nat × Bool)) (ns : List (Nat × Nat)) : Prop where
  size : l'.length = l.length
  cf : cf l = cf l' + ns.length
  at_ : ∀ x ∈ ns, l[x.1]? = some (x.2, true) ∧ l'[x.1]? = some (x.2, false)
  old : ∀ i w : Nat, l'[i]? = some (w, true) → l[i]? = some (w, true) ∧ ∀ x ∈ ns, x.1 ≠ i
  wt : ∀ i : Nat, (l'[i]?).map (·.1) = (l[i]?).map (·.1)
  sum : ∀ g, sf g l = (ns.map fun x => g x.1 x.2).sum + sf g l'
  perm : (fw l).Perm (ns.map (·.2) ++ fw l')
  stay : ∀ i w : Nat, l[i]? = some (w, true) → i ∉ ns.map (·.1) → l'[i]? = some (w, true)
theorem Tk.took {ns : List (Nat × Nat)} {l l' : List (Nat × Bool)} (h : Tk ns l l') : Took l l' ns := by
  induction h with
  | nil l => exact ⟨rfl, by simp, by simp, by simp, fun _ => rfl, by simp, by simp, fun i w hi _ => hi⟩
  | @cons k w ns l l' h1 h2 ih =>
    obtain ⟨hk, e⟩ := List.getElem?_eq_some_iff.1 h1
    have hk2 : (l.set k (w, false))[k]? = some (w, false) := by rw [List.getElem?_set_self hk]
    refine ⟨by rw [ih.size]; simp, by rw [cf_set h1, ih.cf]; exact Nat.add_assoc _ _ _, ?_, ?_, ?_, ?_, ?_, ?_⟩
    · intro x hx
      rcases List.mem_cons.1 hx with rfl | hx
      · refine ⟨h1, ?_⟩
        have h2 := ih.wt k
        rw [hk2] at h2
        cases h3 : l'[k]? with
        | none => rw [h3] at h2; cases h2
        | some y =>
          rw [h3] at h2
          obtain ⟨v, f⟩ := y
          simp at h2
          cases f with
          | false => rw [h2]
          | true =>
            have := (ih.old k v h3).1
            rw [hk2] at this
            simp at this
      · obtain ⟨a1, a2⟩ := ih.at_ x hx
        refine ⟨?_, a2⟩
        by_cases hxk : k = x.1
        · rw [← hxk, hk2] at a1; simp at a1
        · rwa [List.getElem?_set_ne hxk] at a1
    · intro i v hi
      obtain ⟨a1, a2⟩ := ih.old i v hi
      have hki : k ≠ i := fun e => by rw [← e, hk2] at a1; simp at a1
      rw [List.getElem?_set_ne hki] at a1
      refine ⟨a1, fun x hx => ?_⟩
      rcases List.mem_cons.1 hx with rfl | hx
      · exact hki
      · exact a2 x hx
    · intro i
      rw [ih.wt i]
      by_cases hki : k = i
      · subst hki; rw [hk2, h1]; rfl
      · rw [List.getElem?_set_ne hki]
    · intro g
      rw [sf_set g h1, ih.sum g, List.map_cons, List.sum_cons, Nat.add_assoc]
    · refine (fw_set h1).trans ?_
      rw [List.map_cons, List.cons_append]
      exact ih.perm.cons w
    · intro i v hi hn
      rw [List.map_cons, List.mem_cons, not_or] at hn
      exact ih.stay i v (by rw [List.getElem?_set_ne (fun e => hn.1 e.symm)]; exact hi) hn.2
def sumW (ns : List (Nat × Nat)) : Nat := (ns.map (·.2)).sum
/-- Merges of q free nodes each, till one is free. -/
inductive Ms (q : Nat) : List (Nat × Bool) → List (List (Nat × Nat)) → Prop
  | nil {l : List (Nat × Bool)} : cf l = 1 → Ms q l []
  | cons {l l' : List (Nat × Bool)} {ns : List (Nat × Nat)} {ms : List (List (Nat × Nat))} : Tk ns l l' → ns.length = q → Ms q (l' ++ [(sumW ns, true)]) ms → Ms q l (ns :: ms)
theorem Ms.len {q : Nat} (hq : 2 ≤ q) {l : List (Nat × Bool)} {ms : List (List (Nat × Nat))} (h : Ms q l ms) : ms.length * (q - 1) + 1 = cf l := by
  induction h with
  | nil h => simp [h]
  | @cons l l' ns ms h1 h2 _ ih =>
    have := h1.took.cf
    rw [cf_snoc] at ih
    rw [List.length_cons, Nat.add_mul, Nat.one_mul]
    omega
/-- The sums of merges that always join the least ones. -/
inductive MsL (q : Nat) : List (Nat × Bool) → List (List (Nat × Nat)) → Prop
  | nil {l : List (Nat × Bool)} : cf l = 1 → MsL q l []
  | cons {l l' : List (Nat × Bool)} {ns : List (Nat × Nat)} {ms : List (List (Nat × Nat))} : Tk ns l l' → ns.length = q → (∀ x ∈ ns, ∀ b ∈ fw l', x.2 ≤ b) → MsL q (l' ++ [(sumW ns, true)]) ms → MsL q l (ns :: ms)
theorem MsL.ms {q : Nat} {l : List (Nat × Bool)} {ms : List (List (Nat × Nat))} (h : MsL q l ms) : Ms q l ms := by
  induction h with
  | nil h => exact .nil h
  | cons h1 h2 _ _ ih => exact .cons h1 h2 ih
end Go.Proofs.Gv

namespace Go.Proofs.Gv

def freeI (l : List (Nat × Bool)) (a : Int) : Bool := decide (0 ≤ a) && ((l[a.toNat]?).map (·.2)).getD false
theorem Ms.lt {q : Nat} {l : List (Nat × Bool)} {ms : List (List (Nat × Nat))} (h : Ms q l ms) : ∀ (a : List (List (Nat × Nat))) (ns : List (Nat × Nat)) (b : List (List (Nat × Nat))), ms = a ++ ns :: b → ∀ x ∈ ns, x.1 < l.length + a.length := by
  induction h with
  | nil _ => intro a ns b e; simp at e
  | @cons l l' ns0 ms hT _ _ ih =>
    intro a ns b e x hx
    cases a with
    | nil =>
      simp only [List.nil_append, List.cons.injEq] at e
      obtain ⟨rfl, rfl⟩ := e
      have := (List.getElem?_eq_some_iff.1 (hT.took.at_ x hx).1).1
      simpa using this
    | cons y a =>
      simp only [List.cons_append, List.cons.injEq] at e
      have := ih a ns b e.2 x hx
      rw [List.length_append, hT.took.size] at this
      simp only [List.length_cons, List.length_nil] at this ⊢
      omega
/-- The weight of a merged node is the sum of the two. -/
theorem Took.len {l l' : List (Nat × Bool)} {ns : List (Nat × Nat)} (h : Took l l' ns) : l'.map (·.1) = l.map (·.1) := by
  apply List.ext_getElem?
  intro i
  rw [List.getElem?_map, List.getElem?_map]
  exact h.wt i
end Go.Proofs.Gv

namespace Go.Proofs.Gv
open Go Go.RowKit Go.Maps

/-- How an element reads: as a number. -/
noncomputable def RI (v : Value) : Option (DataW Unit × List MemPlace) := open Classical in if h : ∃ z : Nat, v = VN z then some (.lit (.int .i64 (h.choose : Int)), []) else none
/-- Block b is a map of at most n entries: the free nodes of l. -/
structure MapL (W : World) (b n : Nat) (l : List (Nat × Bool)) : Prop where
  ex : ∃ D : DataW Unit, W.ownsMap Try.prog 3 RI b n D ∧ Maps.size D = cf l ∧ (∀ x : Int, Maps.has D (.int .i64 x) = freeI l x) ∧ ∀ (i v : Nat), l[i]? = some (v, true) → ∀ zd, D.atKey (.int .i64 (i : Int)) zd = .lit (.int .i64 (v : Int))
theorem MapL.kept {W W' : World} {b n : Nat} {l : List (Nat × Bool)} {row : Option Nat} (h : MapL W b n l) (hg : W.grownBy W' row) (hne : some b ≠ row) : MapL W' b n l := by
  obtain ⟨D, h1, h2⟩ := h.ex
  exact ⟨D, h1.kept hg hne, h2⟩
theorem MapL.lt {W : World} {b n : Nat} {l : List (Nat × Bool)} (h : MapL W b n l) : b < W.heap.size := by
  obtain ⟨D, h1, h2⟩ := h.ex
  exact h1.lt
theorem Below.grows {W W' : World} (h : Below W.heap.size W W') : W.grownBy W' none := ⟨h.os, h.tape, h.output, h.size, fun i hi _ => h.block i hi⟩
theorem MapL.below {W W' : World} {b n : Nat} {l : List (Nat × Bool)} (h : MapL W b n l) (hb : Below W.heap.size W W') : MapL W' b n l := h.kept (Below.grows hb) (by simp)
end Go.Proofs.Gv

namespace Go.Proofs.Gv
open Go Go.RowKit Go.Maps

theorem BC.grown {W W' : World} {b : Nat} {L : List Value} {row : Option Nat} (h : BC W b L) (hg : W.grownBy W' row) (hne : some b ≠ row) : BC W' b L := by
  have e := hg.block b h.lt hne
  exact ⟨Nat.lt_of_lt_of_le h.lt hg.size, fun i v hi => (World.cell?_of_block (w := W) (w' := W') (a := ⟨b, i, none⟩) e).trans (h.cell i v hi), fun i hi => (World.frozen?_of_block (w := W) (w' := W') (a := ⟨b, i, none⟩) e).trans (h.fz i hi)⟩
theorem BC.drew {W : World} {b : Nat} {L : List Value} (h : BC W b L) : BC W.drew b L := ⟨h.lt, h.cell, h.fz⟩
end Go.Proofs.Gv

namespace Go.Proofs.Gv
open Go Go.RowKit

/-- Between the rounds: what lay there lies there, but for the blocks of X. -/
structure Own2 (X : Nat → Prop) (W W' : World) : Prop where
  os : W'.os = W.os
  tape : W'.tape = W.tape
  output : W'.output = W.output
  size : W.heap.size ≤ W'.heap.size
  same : ∀ k, k < W.heap.size → ¬ X k → W'.heap[k]? = W.heap[k]?
theorem Own2.refl (X : Nat → Prop) (W : World) : Own2 X W W := ⟨rfl, rfl, rfl, Nat.le_refl _, fun _ _ _ => rfl⟩
theorem Own2.trans {X : Nat → Prop} {A B C : World} (h : Own2 X A B) (k : Own2 X B C) : Own2 X A C :=
  ⟨k.os.trans h.os, k.tape.trans h.tape, k.output.trans h.output, Nat.le_trans h.size k.size, fun i hi hx => (k.same i (Nat.lt_of_lt_of_le hi h.size) hx).trans (h.same i hi hx)⟩
theorem Own2.below {X : Nat → Prop} {A B C : World} (h : Own2 X A B) (k : Below B.heap.size B C) : Own2 X A C :=
  h.trans ⟨k.os, k.tape, k.output, k.size, fun i hi _ => k.block i hi⟩
theorem Own2.setCell {X : Nat → Prop} {A B : World} (h : Own2 X A B) {p : Addr} (hp : X p.block) (u : Value) : Own2 X A (B.setCell p u) :=
  h.trans ⟨rfl, rfl, rfl, by simp [World.setCell], fun i _ hx => Below.heap_setCell _ _ _ _ (fun e => hx (e ▸ hp))⟩

variable {F : Fence} {n : Nat} {P : Program}

end Go.Proofs.Gv
