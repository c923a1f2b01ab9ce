/- Merges that come in, plainly: which are taken, and their depths; depths by parents. -/
import Derived.Test.YtglgiofjgfbfgaaHufS
import Derived.Test.YtglgiofjgfbfgaaHordP
import Derived.Maps.RangeWalk
import Derived.Maps.OwnSet
import Derived.Maps.OwnOps
set_option linter.unusedSimpArgs false
set_option linter.unusedVariables false
namespace Go.Proofs.Gv

def freeI (l : List (Nat × Bool)) (a : Int) : Bool := decide (0 ≤ a) && ((l[a.toNat]?).map (·.2)).getD false
def wAt (l : List (Nat × Bool)) (i : Nat) : Nat := ((l[i]?).map (·.1)).getD 0
theorem freeI_spec {l : List (Nat × Bool)} {a : Int} (h : freeI l a = true) : ∃ i : Nat, a = i ∧ l[i]? = some (wAt l i, true) := by
  unfold freeI at h
  simp only [Bool.and_eq_true, decide_eq_true_eq] at h
  refine ⟨a.toNat, by omega, ?_⟩
  unfold wAt
  cases hl : l[a.toNat]? with
  | none => rw [hl] at h; simp at h
  | some x =>
    obtain ⟨w, f⟩ := x
    rw [hl] at h
    simp at h
    rw [h.2]
    rfl
theorem Ms.lt {q : Nat} {l : List (Nat × Bool)} {ms : List (List (Nat × Nat))} (h : Ms q l ms) : ∀ (a : List (List (Nat × Nat))) (ns : List (Nat × Nat)) (b : List (List (Nat × Nat))), ms = a ++ ns :: b → ∀ x ∈ ns, x.1 < l.length + a.length := by
  induction h with
  | nil _ => intro a ns b e; simp at e
  | @cons l l' ns0 ms hT _ _ ih =>
    intro a ns b e x hx
    cases a with
    | nil =>
      simp only [List.nil_append, List.cons.injEq] at e
      obtain ⟨rfl, rfl⟩ := e
      have := (List.getElem?_eq_some_iff.1 (hT.took.at_ x hx).1).1
      simpa using this
    | cons y a =>
      simp only [List.cons_append, List.cons.injEq] at e
      have := ih a ns b e.2 x hx
      rw [List.length_append, hT.took.size] at this
      simp only [List.length_cons, List.length_nil] at this ⊢
      omega
/-- The weight of a merged node is the sum of the two. -/
theorem Took.len {l l' : List (Nat × Bool)} {ns : List (Nat × Nat)} (h : Took l l' ns) : l'.map (·.1) = l.map (·.1) := by
  apply List.ext_getElem?
  intro i
  rw [List.getElem?_map, List.getElem?_map]
  exact h.wt i
/-- The merges of the tree, as they are handed back, are accepted. -/
def pairsOf (ms : List (List (Nat × Nat))) : List (Int × Int) := ms.map fun ns => match ns with | [a, b] => ((a.1 : Int), (b.1 : Int)) | _ => (0, 0)
end Go.Proofs.Gv

namespace Go.Proofs.Gv
open Go Go.RowKit Go.Maps

theorem VN_inj {x y : Nat} (h : VN x = VN y) : x = y := by
  unfold VN at h
  have : mg x = mg y := by simpa using h
  have := congrArg (fun s => bv s.data.toList) this
  simpa [bv_mg] using this
/-- How an element reads: as a number. -/
noncomputable def RI (v : Value) : Option (DataW Unit × List MemPlace) := open Classical in if h : ∃ z : Nat, v = VN z then some (.lit (.int .i64 (h.choose : Int)), []) else none
theorem RI_mk (z : Nat) : RI (VN z) = some (.lit (.int .i64 (z : Int)), []) := by
  have h : ∃ y : Nat, VN z = VN y := ⟨z, rfl⟩
  unfold RI
  rw [dif_pos h]
  have : h.choose = z := (VN_inj h.choose_spec).symm
  rw [this]
theorem RI_inv {v : Value} {y : DataW Unit × List MemPlace} (h : RI v = some y) : ∃ z : Nat, v = VN z ∧ y = (.lit (.int .i64 (z : Int)), []) := by
  unfold RI at h
  split at h
  · rename_i hz
    exact ⟨hz.choose, hz.choose_spec, (Option.some.inj h).symm⟩
  · cases h
theorem lawI : Keyed Try.prog 3 := int_keyed Try.underlying3
/-- Block b is a map of at most n entries: the free nodes of l. -/
structure MapL (W : World) (b n : Nat) (l : List (Nat × Bool)) : Prop where
  ex : ∃ D : DataW Unit, W.ownsMap Try.prog 3 RI b n D ∧ Maps.size D = cf l ∧ (∀ x : Int, Maps.has D (.int .i64 x) = freeI l x) ∧ ∀ (i v : Nat), l[i]? = some (v, true) → ∀ zd, D.atKey (.int .i64 (i : Int)) zd = .lit (.int .i64 (v : Int))
theorem MapL.kept {W W' : World} {b n : Nat} {l : List (Nat × Bool)} {row : Option Nat} (h : MapL W b n l) (hg : W.grownBy W' row) (hne : some b ≠ row) : MapL W' b n l := by
  obtain ⟨D, h1, h2⟩ := h.ex
  exact ⟨D, h1.kept hg hne, h2⟩
theorem MapL.lt {W : World} {b n : Nat} {l : List (Nat × Bool)} (h : MapL W b n l) : b < W.heap.size := by
  obtain ⟨D, h1, h2⟩ := h.ex
  exact h1.lt
theorem Below.grows {W W' : World} (h : Below W.heap.size W W') : W.grownBy W' none := ⟨h.os, h.tape, h.output, h.size, fun i hi _ => h.block i hi⟩
theorem MapL.below {W W' : World} {b n : Nat} {l : List (Nat × Bool)} (h : MapL W b n l) (hb : Below W.heap.size W W') : MapL W' b n l := h.kept (Below.grows hb) (by simp)
end Go.Proofs.Gv
