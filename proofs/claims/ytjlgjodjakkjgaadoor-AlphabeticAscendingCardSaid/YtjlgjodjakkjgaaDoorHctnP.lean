/- maps.Collect over slices.All: a map of all weights. -/
import Derived.Test.YtjlgjodjakkjgaaDoorRangeP
import Derived.Test.YtjlgjodjakkjgaaDoorVwP
import Derived.RangeFuncCalls
import Derived.Shelf.Abstract
import Derived.OwnWalkIn
import Derived.TacticsInMore
import Derived.LoopNIn
import Derived.LoopIn
import Derived.Maps.OwnIn
import Derived.Sort.LoopGhostIn
import Derived.Deep.AppendLies
import Derived.Deep.RegionHeld3
import Derived.Laws.OwnMore
import Derived.Test.YtjlgjodjakkjgaaDoorFront
set_option linter.unusedSimpArgs false
set_option linter.unusedVariables false
namespace Go.Proofs.Gv
open Go Go.RowKit Go.Maps
attribute [local go_sem] Oper.semAt_some

def VL (Ws : List Nat) : List (Bool × ByteArray) := Ws.map fun z => (false, mg z)
/-- Blocks below n0, but for mb, lie as they lay. -/
structure KB (n0 mb : Nat) (W W' : World) : Prop where
  size : W.heap.size ≤ W'.heap.size
  same : ∀ k, k < n0 → k ≠ mb → W'.heap[k]? = W.heap[k]?
theorem KB.trans {n0 mb : Nat} {A B C : World} (h : KB n0 mb A B) (k : KB n0 mb B C) : KB n0 mb A C :=
  ⟨Nat.le_trans h.size k.size, fun i hi hne => (k.same i hi hne).trans (h.same i hi hne)⟩
end Go.Proofs.Gv

namespace Go.Proofs.Gv
open Go Go.RowKit Go.Maps

theorem infoN : (Tryd.prog.info? 3).map (fun i => (i.zero, i.size, i.bytes)) = some (some (.int .i64 0), 1, 8) := by kernel_rfl
def natV (l : List Nat) : List Value := l.map fun (k : Nat) => .int .i64 k
theorem own_cells {w : World} {base : Nat} {e : TypeId} {n g cap : Nat} {xs : List Value} (h : w.ownsRow base e 1 (.slice (some ⟨g, 0, none⟩) n cap) n xs) : base ≤ g ∧ g < w.heap.size ∧ ∀ i v, xs[i]? = some v → w.cell? ⟨g, i, none⟩ = some v := by
  rcases h.2 with ⟨e0, h0⟩ | ⟨g', cap', cur, hv, hb, hg, h1, h2, h3, h4⟩
  · cases e0
  · cases hv
    refine ⟨hb, (Array.getElem?_eq_some_iff.1 hg).1, fun i v hi => ?_⟩
    have hx := (List.getElem?_eq_some_iff.1 hi).1
    rw [cell_of_row w g i cur e (0, 0) hg]
    rw [← h4, List.getElem?_take] at hi
    split at hi
    · simpa using hi
    · cases hi
/-- L is a row of slices, each of which reads as a row of numbers. -/
structure Rows (W : World) (b0 : Nat) (skip : Option Nat) (L : List Value) (ms : List (List Nat)) : Prop where
  len : L.length = ms.length
  row : ∀ (i : Nat) (ns : List Nat), ms[i]? = some ns → ∃ g cap, L[i]? = some (.slice (some ⟨g, 0, none⟩) ns.length cap) ∧ b0 ≤ g ∧ g < W.heap.size ∧ skip ≠ some g ∧ ∀ (j k : Nat), ns[j]? = some k → W.cell? ⟨g, j, none⟩ = some (.int .i64 (k : Int))
theorem Rows.nil (W : World) (b0 : Nat) (skip : Option Nat) : Rows W b0 skip [] [] := ⟨rfl, fun i ns h => by simp at h⟩
theorem Rows.free {W : World} {b0 b1 : Nat} {skip : Option Nat} {L : List Value} {ms : List (List Nat)} (h : Rows W b0 skip L ms) (hb : b1 ≤ b0) : Rows W b1 none L ms := by
  refine ⟨h.len, fun i ns hi => ?_⟩
  obtain ⟨g, cap, h1, h2, h3, h4, h5⟩ := h.row i ns hi
  exact ⟨g, cap, h1, by omega, h3, by simp, h5⟩
theorem Rows.grown {W W' : World} {b0 : Nat} {skip row : Option Nat} {L : List Value} {ms : List (List Nat)} (h : Rows W b0 skip L ms) (hg : W.grownBy W' row) (hr : row = skip ∨ ∀ c, row = some c → c < b0 ∨ W.heap.size ≤ c) : Rows W' b0 skip L ms := by
  refine ⟨h.len, fun i ns hi => ?_⟩
  obtain ⟨g, cap, h1, h2, h3, h4, h5⟩ := h.row i ns hi
  refine ⟨g, cap, h1, h2, Nat.lt_of_lt_of_le h3 hg.size, h4, fun j k hj => ?_⟩
  refine (World.cell?_of_block (hg.block g h3 ?_)).trans (h5 j k hj)
  rintro e
  rcases hr with rfl | hr
  · exact h4 e.symm
  · have := hr g e.symm; omega
theorem own_grown {W W' : World} {base : Nat} {e : TypeId} {size n : Nat} {v : Value} {xs : List Value} {row : Option Nat} (h : W.ownsRow base e size v n xs) (hg : W.grownBy W' row) (hne : ∀ g, v.ownBlock = some g → row ≠ some g) : W'.ownsRow base e size v n xs := by
  refine ⟨h.1, ?_⟩
  rcases h.2 with h0 | ⟨g, cap, cur, rfl, hb, hgc, hr⟩
  · exact .inl h0
  · refine .inr ⟨g, cap, cur, rfl, hb, ?_, hr⟩
    exact (hg.block g (Array.getElem?_eq_some_iff.1 hgc).1 (fun e => hne g rfl e.symm)).trans hgc
theorem own_base {W : World} {base : Nat} {e : TypeId} {size n : Nat} {v : Value} {xs : List Value} (h : W.ownsRow base e size v n xs) {g : Nat} (hg : v.ownBlock = some g) : base ≤ g ∧ g < W.heap.size := by
  rcases h.2 with ⟨rfl, h0⟩ | ⟨g', cap, cur, rfl, hb, hgc, hr⟩
  · cases hg
  · cases hg
    exact ⟨hb, (Array.getElem?_eq_some_iff.1 hgc).1⟩
theorem own_nil (W : World) (base : Nat) (e : TypeId) (size : Nat) : W.ownsRow base e size (.slice none 0 0) 0 [] := ⟨by simp, .inl ⟨rfl, rfl⟩⟩
/- The padding, a node at a time. -/
end Go.Proofs.Gv

namespace Go.Proofs.Gv
open Go Go.RowKit Go.Maps
attribute [local go_sem] Oper.semAt_some

/-- A slice value reads as L. -/
def RowAt (W : World) (v : Value) (L : List Value) : Prop := ∃ (a : Option Addr) (c : Nat), v = .slice a L.length c ∧ ∀ (i : Nat) (x : Value), L[i]? = some x → ∃ g, a = some ⟨g, 0, none⟩ ∧ W.cell? ⟨g, i, none⟩ = some x
theorem RowAt.of_own {W : World} {base : Nat} {e : TypeId} {v : Value} {L : List Value} (h : W.ownsRow base e 1 v L.length L) : RowAt W v L := by
  rcases h.2 with ⟨rfl, h0⟩ | ⟨g, cap, cur, rfl, hr⟩
  · exact ⟨none, 0, by rw [h0], fun i x hi => by have := (List.getElem?_eq_some_iff.1 hi).1; omega⟩
  · exact ⟨_, _, rfl, fun i x hi => ⟨g, rfl, (own_cells h).2.2 i x hi⟩⟩
end Go.Proofs.Gv

namespace Go.Proofs.Gv
open Go Go.RowKit Go.Maps

theorem natV_len (d : List Nat) : (natV d).length = d.length := by unfold natV; simp
end Go.Proofs.Gv

namespace Go.Proofs.Gv
open Go Go.RowKit Go.Maps

theorem mg_lt {z S N : Nat} (h : (mg z).size ≤ S) (hN : 8 * S ≤ N) : z < 2 ^ N := by
  have h2 := bv_lt (byt z)
  have hs : (byt z).length = (mg z).size := by simp [mg, ByteArray.size]
  rw [bv_byt, hs] at h2
  exact Nat.lt_of_lt_of_le h2 (by rw [p256]; exact Nat.pow_le_pow_right (by decide) (by omega))
theorem sum_le {M : Nat} : ∀ {Ws : List Nat}, (∀ z ∈ Ws, z ≤ M) → Ws.sum ≤ Ws.length * M
  | [], _ => by simp
  | x :: Ws, h => by
    have h1 := sum_le (Ws := Ws) (fun z hz => h z (List.mem_cons_of_mem _ hz))
    have h2 := h x List.mem_cons_self
    rw [List.sum_cons, List.length_cons, Nat.add_mul, Nat.one_mul]
    omega
theorem sum_lt {N : Nat} {Ws : List Nat} (h : ∀ z ∈ Ws, z < 2 ^ N) (hl : Ws.length ≤ 1000) : Ws.sum < 2 ^ (N + 10) := by
  have h0 : 0 < 2 ^ N := Nat.pow_pos (by decide)
  have h1 := sum_le (M := 2 ^ N - 1) (fun z hz => by have := h z hz; omega)
  have h2 : Ws.length * (2 ^ N - 1) ≤ 1000 * (2 ^ N - 1) := Nat.mul_le_mul_right _ hl
  rw [Nat.pow_add]
  omega
end Go.Proofs.Gv

namespace Go.Proofs.Gv
open Go Go.RowKit Go.Maps

def prods (Ws ds : List Nat) : List Nat := (Ws.zip ds).map fun x => x.1 * x.2
def csum (Ws ds : List Nat) : Nat := (prods Ws ds).sum
theorem prods_at {Ws ds : List Nat} {i x d : Nat} (h1 : Ws[i]? = some x) (h2 : ds[i]? = some d) : (prods Ws ds)[i]? = some (x * d) := by
  unfold prods
  rw [List.getElem?_map, (List.getElem?_zip_eq_some (z := (x, d))).2 ⟨h1, h2⟩]
  rfl
theorem prods_len {Ws ds : List Nat} (h : ds.length = Ws.length) : (prods Ws ds).length = Ws.length := by unfold prods; rw [List.length_map, List.length_zip, h, Nat.min_self]
theorem take_sum_succ {P : List Nat} {i x : Nat} (h : P[i]? = some x) : (P.take (i + 1)).sum = (P.take i).sum + x := by
  rw [List.take_add_one, h, List.sum_append]; simp
theorem take_sum_le : ∀ (P : List Nat) (i : Nat), (P.take i).sum ≤ P.sum
  | [], i => by simp
  | x :: P, 0 => by simp
  | x :: P, i + 1 => by
    have := take_sum_le P i
    simp only [List.take_succ_cons, List.sum_cons]
    omega
theorem csum_lt {N : Nat} {Ws ds : List Nat} (hl : ds.length = Ws.length) (h1 : ∀ z ∈ Ws, z < 2 ^ N) (h2 : ∀ d ∈ ds, d < 2 ^ 62) (h3 : Ws.length ≤ 1000) : csum Ws ds < 2 ^ (N + 62 + 10) := by
  refine sum_lt (fun z hz => ?_) (by rw [prods_len hl]; exact h3)
  obtain ⟨⟨a, b⟩, hm, rfl⟩ := List.mem_map.1 hz
  have ha := h1 a (List.of_mem_zip hm).1
  have hb := h2 b (List.of_mem_zip hm).2
  rw [Nat.pow_add]
  exact Nat.mul_lt_mul'' ha hb
end Go.Proofs.Gv

namespace Go.Proofs.Gv
open Go Go.RowKit Go.Maps

theorem RowAt.below {W W' : World} {v : Value} {L : List Value} (h : RowAt W v L) (hb : Below W.heap.size W W') : RowAt W' v L := by
  obtain ⟨a, c, rfl, hat⟩ := h
  refine ⟨a, c, rfl, fun i x hi => ?_⟩
  obtain ⟨g, rfl, hc⟩ := hat i x hi
  exact ⟨g, rfl, (hb.cell (p := ⟨g, i, none⟩) (World.block_lt_of_cell? W _ hc)).trans hc⟩
def badL (k : Int) : Bool := decide (k < 1) || decide (64 < k)
theorem not_bad {xs : List Int} (h : xs.any badL = false) : ∃ ds : List Nat, xs = ds.map (fun (k : Nat) => (k : Int)) ∧ ∀ d ∈ ds, 1 ≤ d ∧ d ≤ 64 := by
  refine ⟨xs.map Int.toNat, ?_, fun d hd => ?_⟩
  · rw [List.map_map]
    refine (List.map_id xs).symm.trans (List.map_congr_left fun x hx => ?_)
    have := List.any_eq_false.1 h x hx
    unfold badL at this
    simp at this
    simp
    omega
  · obtain ⟨x, hx, rfl⟩ := List.mem_map.1 hd
    have := List.any_eq_false.1 h x hx
    unfold badL at this
    simp at this
    omega
end Go.Proofs.Gv
