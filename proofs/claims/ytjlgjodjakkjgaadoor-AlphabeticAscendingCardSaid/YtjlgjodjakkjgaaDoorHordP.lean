/- Boxes of any number of cells. -/
import Derived.Test.YtjlgjodjakkjgaaDoorLawKitP
import Derived.Test.YtjlgjodjakkjgaaDoorM1MachineP
import Derived.Deep.LoopGhost
import Derived.Deep.Slices
import Derived.Deep.Fields
import Derived.ChangeSame
import Derived.Carry
import Derived.OpenShut
import Derived.Lib.SmallJoins
import Derived.Test.YtjlgjodjakkjgaaDoorShelf
import Derived.LoopN
set_option linter.unusedSimpArgs false
set_option linter.unusedVariables false
namespace Go.Proofs.Gv
open Go Go.RowKit
/-- A box of any number of cells. -/
structure BC (W : World) (b : Nat) (l : List Value) : Prop where
  lt : b < W.heap.size
  cell : ∀ i v, l[i]? = some v → W.cell? ⟨b, i, none⟩ = some v
  fz : ∀ i, i < l.length → W.frozen? ⟨b, i, none⟩ = false
theorem BC.below {W W1 W' : World} {b : Nat} {l : List Value} (h : BC W b l) (hb : Below W1.heap.size W1 W') (e : W1.heap = W.heap := by rfl) : BC W' b l := by
  have hlt : b < W1.heap.size := by rw [e]; exact h.lt
  have hc : ∀ o, W1.cell? ⟨b, o, none⟩ = W.cell? ⟨b, o, none⟩ := fun o => World.cell?_of_block (by rw [e])
  have hf : ∀ o, W1.frozen? ⟨b, o, none⟩ = W.frozen? ⟨b, o, none⟩ := fun o => by unfold World.frozen?; rw [e]
  exact ⟨Nat.lt_of_lt_of_le hlt hb.size, fun i v hv => (hb.cell (p := ⟨b, i, none⟩) hlt).trans ((hc i).trans (h.cell i v hv)),
    fun i hi => (hb.frozen (p := ⟨b, i, none⟩) hlt).trans ((hf i).trans (h.fz i hi))⟩
theorem BC.alloc {W : World} {b : Nat} {l : List Value} (h : BC W b l) (o : Obj) : BC (W.alloc o) b l :=
  h.below ((Below.refl W.heap.size W).alloc (Nat.le_refl _) o)
theorem BC.set {W : World} {b : Nat} {l : List Value} (h : BC W b l) (i : Nat) (v : Value) (hi : i < l.length) : BC (W.setCell ⟨b, i, none⟩ v) b (l.set i v) := by
  refine ⟨by simpa using h.lt, fun j u hu => ?_, fun j hj => ?_⟩
  · by_cases hij : i = j
    · subst hij
      rw [List.getElem?_set_self hi] at hu
      obtain rfl := Option.some.inj hu
      exact World.cell?_setCell_same _ _ _ (h.cell i _ (List.getElem?_eq_getElem hi))
    · rw [List.getElem?_set_ne hij] at hu
      exact (World.cell?_setCell_other _ _ _ _ (fun e => hij (congrArg Addr.off e))).trans (h.cell j u hu)
  · rw [World.frozen?_setCell]; exact h.fz j (by simpa using hj)
theorem BC.other {W : World} {b c : Nat} {l : List Value} (h : BC W b l) (i : Nat) (v : Value) (hne : b ≠ c) : BC (W.setCell ⟨c, i, none⟩ v) b l :=
  ⟨by simpa using h.lt, fun j u hu => (World.cell?_setCell_other _ _ _ _ (fun e => hne (congrArg Addr.block e).symm)).trans (h.cell j u hu),
    fun j hj => by rw [World.frozen?_setCell]; exact h.fz j hj⟩
theorem BC.of {W : World} {b : Nat} {a : Array Value} {T : TypeId} (h : W.heap[b]? = some (.cells a T (0, 0))) : BC W b a.toList := by
  refine ⟨(Array.getElem?_eq_some_iff.1 h).1, fun i v hv => ?_, fun i hi => ?_⟩
  · rw [Array.getElem?_toList] at hv
    simp [World.cell?, h, hv]
  · simp [World.frozen?, h]
theorem BC.new (W : World) (b : Nat) (a : Array Value) (T : TypeId) (hb : b = W.heap.size) : BC (W.alloc (.cells a T)) b a.toList := by
  subst hb
  exact BC.of (T := T) (heap_alloc_new W (.cells a T))
/-- Boxes, by their cells. -/
def BCs (L : List (Nat × List Value)) (W : World) : Prop := ∀ x ∈ L, BC W x.1 x.2
theorem BCs.nil (W : World) : BCs [] W := fun x h => by cases h
theorem BCs.cons {L : List (Nat × List Value)} {W : World} {b : Nat} {l : List Value} (h : BCs L W) (hb : BC W b l) : BCs ((b, l) :: L) W := fun x hx => by
  rcases List.mem_cons.1 hx with rfl | hx
  · exact hb
  · exact h x hx
theorem BCs.below {L : List (Nat × List Value)} {W W1 W' : World} (h : BCs L W) (hb : Below W1.heap.size W1 W') (e : W1.heap = W.heap := by rfl) : BCs L W' := fun x hx => (h x hx).below hb e
theorem BCs.push {L : List (Nat × List Value)} {W : World} (h : BCs L W) (b : Nat) (a : Array Value) (T : TypeId) (hb : b = W.heap.size) : BCs ((b, a.toList) :: L) (W.alloc (.cells a T)) :=
  BCs.cons (fun x hx => (h x hx).alloc _) (BC.new W b a T hb)
/-- Two cells of a box set one behind the other. -/
theorem BC.set2 {W : World} {b : Nat} {l : List Value} (h : BC W b l) (i j : Nat) (u v : Value) (hi : i < l.length) (hj : j < l.length) :
    BC ((W.setCell ⟨b, i, none⟩ u).setCell ⟨b, j, none⟩ v) b ((l.set i u).set j v) := (h.set i u hi).set j v (by simpa using hj)
/-- What the walk reads of a box. -/
theorem BC.at {W : World} {b : Nat} {l : List Value} (h : BC W b l) (i : Nat) (v : Value) (e : l[i]? = some v := by rfl) : W.cell? ⟨b, i, none⟩ = some v := h.cell i v e
theorem BC.z {W : World} {b : Nat} {l : List Value} (h : BC W b l) (i : Nat) (e : i < l.length := by decide) : W.frozen? ⟨b, i, none⟩ = false := h.fz i e
theorem BC.z4 {W : World} {b : Nat} {v0 v1 v2 v3 : Value} {l : List Value} (h : BC W b (v0 :: v1 :: v2 :: v3 :: l)) : W.frozen? ⟨b, 0, none⟩ = false ∧ W.frozen? ⟨b, 1, none⟩ = false ∧ W.frozen? ⟨b, 2, none⟩ = false ∧ W.frozen? ⟨b, 3, none⟩ = false := ⟨h.z 0 (by simp), h.z 1 (by simp), h.z 2 (by simp), h.z 3 (by simp)⟩
end Go.Proofs.Gv

namespace Go.Proofs.Gv
open Go Go.RowKit

/-- A slice reads as these integers. -/
def Sl (W : World) (a : Option Addr) (L : List (Bool × ByteArray)) : Prop :=
  ∀ (i : Nat) (n : Bool) (s : ByteArray), L[i]? = some (n, s) → ∃ A, a = some A ∧ W.cell? (A.add (i * 2)) = some (.bool n) ∧ W.cell? (A.add (i * 2 + 1)) = some (.string s)
theorem Sl.below {W W' : World} {a : Option Addr} {L : List (Bool × ByteArray)} (h : Sl W a L) (hb : Below W.heap.size W W') : Sl W' a L := fun i n s hi => by
  obtain ⟨A, e, c0, c1⟩ := h i n s hi
  exact ⟨A, e, (hb.cell (World.block_lt_of_cell? _ _ c0)).trans c0, (hb.cell (World.block_lt_of_cell? _ _ c1)).trans c1⟩
theorem Sl.lt {W : World} {a : Option Addr} {L : List (Bool × ByteArray)} (h : Sl W a L) (hl : 0 < L.length) : ∀ A, a = some A → A.block < W.heap.size := fun A e => by
  obtain ⟨A', e', c0, -⟩ := h 0 L[0].1 L[0].2 (List.getElem?_eq_getElem hl)
  rw [e] at e'
  cases e'
  exact World.block_lt_of_cell? _ (A.add (0 * 2)) c0
theorem addr_next (A : Addr) (n : Nat) : (⟨(A.add n).block, (A.add n).off + 1, none⟩ : Addr) = A.add (n + 1) := by
  unfold Addr.add
  by_cases h : n = 0
  · subst h; simp
  · simp [h]; omega
/-- The first error of weights. -/
noncomputable def chkR : List (Bool × ByteArray) → Int
  | [] => 0
  | x :: r => open Classical in if Canon x.1 x.2 then (if iv x.1 x.2 < 0 then 2 else chkR r) else 1
noncomputable def chkW (L : List (Bool × ByteArray)) : Int := if L.length < 2 then 5 else if 64 < L.length then 4 else chkR L
/-- Valid weights are written as they should be. -/
theorem chkR_ok : ∀ {L : List (Bool × ByteArray)}, chkR L = 0 → ∃ Ws : List Nat, L = Ws.map fun z => (false, mg z)
  | [], _ => ⟨[], rfl⟩
  | (n, s) :: r, h => by
    unfold chkR at h
    by_cases hc : Canon n s
    · rw [if_pos hc] at h
      by_cases hn : iv n s < 0
      · rw [if_pos hn] at h; cases h
      · rw [if_neg hn] at h
        obtain ⟨Ws, hW⟩ := chkR_ok h
        refine ⟨bv s.data.toList :: Ws, ?_⟩
        rw [List.map_cons, ← hW]
        congr 1
        obtain ⟨h1, h2⟩ := hc
        have : n = false := by
          rw [← h1]
          unfold iv at hn
          cases n with
          | false => rfl
          | true =>
            unfold sg
            simp at hn ⊢
            first | omega | (intro h; omega) | simp_all
        rw [this, h2]
    · rw [if_neg hc] at h; cases h
theorem chkW_ok {L : List (Bool × ByteArray)} (h : chkW L = 0) : 2 ≤ L.length ∧ L.length ≤ 64 ∧ ∃ Ws : List Nat, L = Ws.map fun z => (false, mg z) := by
  unfold chkW at h
  split at h
  · cases h
  · split at h
    · cases h
    · exact ⟨by omega, by omega, chkR_ok h⟩
end Go.Proofs.Gv

namespace Go.Proofs.Gv
open Go Go.RowKit Go.ChangeShapes Go.WideShapes Go.Deep
section
variable {H : Type} {enc : TypeId × Value → H} {P : Program} {w : World} {base : Nat} {spare : Nat → Bool} {held : Bool}
end
/-- A list out of what is known at each index. -/
theorem list_of {α : Type} [Inhabited α] {n : Nat} {R : Nat → α → Prop} (h : ∀ i, i < n → ∃ x, R i x) : ∃ L : List α, L.length = n ∧ ∀ (i : Nat) (x : α), L[i]? = some x → R i x := by
  induction n with
  | zero => exact ⟨[], rfl, fun i x hi => by simp at hi⟩
  | succ n ih =>
    obtain ⟨L, hl, hr⟩ := ih fun i hi => h i (by omega)
    obtain ⟨x, hx⟩ := h n (by omega)
    refine ⟨L ++ [x], by simp [hl], fun i y hi => ?_⟩
    rcases Nat.lt_or_ge i n with h1 | h1
    · rw [List.getElem?_append_left (by omega)] at hi; exact hr i y hi
    · have : i = n := by
        have := (List.getElem?_eq_some_iff.1 hi).1
        simp at this; omega
      subst this
      rw [List.getElem?_append_right (by omega), hl, Nat.sub_self] at hi
      cases hi
      exact hx
theorem laid : laidOutB Tryd.prog = true := by kernel_rfl
end Go.Proofs.Gv

namespace Go.Proofs.Gv
open Go Go.RowKit

/-- An integer that is not negative, as it is written. -/
def VN (z : Nat) : Value := .agg #[.bool false, .string (mg z)]
theorem VN_rp {z : Nat} {N : Nat} (h : z < 2 ^ N) (hN : N ≤ 7900000) : Rp false (mg z) (z : Int) := by
  have := Rp.V (z := (z : Int)) N (by rwa [Int.natAbs_natCast]) hN
  rwa [Int.natAbs_natCast, show sgn (z : Int) = false from decide_eq_false (by omega)] at this
end Go.Proofs.Gv
