/- Rows of rows of integers: what a call builds by append, and what stays of it. -/
import Derived.Test.YtglgiofjgfbfgaaHcol
import Derived.Deep.AppendLies
set_option linter.unusedSimpArgs false
set_option linter.unusedVariables false
namespace Go.Proofs.Gv
open Go Go.RowKit Go.Maps

theorem infoN : (Try.prog.info? 3).map (fun i => (i.zero, i.size, i.bytes)) = some (some (.int .i64 0), 1, 8) := by kernel_rfl
theorem infoR : (Try.prog.info? 32).map (fun i => (i.zero, i.size, i.bytes)) = some (some (.slice none 0 0), 1, 24) := by kernel_rfl
def natV (l : List Nat) : List Value := l.map fun (k : Nat) => .int .i64 k
theorem own_cells {w : World} {base : Nat} {e : TypeId} {n g cap : Nat} {xs : List Value} (h : w.ownsRow base e 1 (.slice (some ⟨g, 0, none⟩) n cap) n xs) : base ≤ g ∧ g < w.heap.size ∧ ∀ i v, xs[i]? = some v → w.cell? ⟨g, i, none⟩ = some v := by
  rcases h.2 with ⟨e0, h0⟩ | ⟨g', cap', cur, hv, hb, hg, h1, h2, h3, h4⟩
  · cases e0
  · cases hv
    refine ⟨hb, (Array.getElem?_eq_some_iff.1 hg).1, fun i v hi => ?_⟩
    have hx := (List.getElem?_eq_some_iff.1 hi).1
    rw [cell_of_row w g i cur e (0, 0) hg]
    rw [← h4, List.getElem?_take] at hi
    split at hi
    · simpa using hi
    · cases hi
/-- L is a row of slices, each of which reads as a row of numbers. -/
structure Rows (W : World) (b0 : Nat) (skip : Option Nat) (L : List Value) (ms : List (List Nat)) : Prop where
  len : L.length = ms.length
  row : ∀ (i : Nat) (ns : List Nat), ms[i]? = some ns → ∃ g cap, L[i]? = some (.slice (some ⟨g, 0, none⟩) ns.length cap) ∧ b0 ≤ g ∧ g < W.heap.size ∧ skip ≠ some g ∧ ∀ (j k : Nat), ns[j]? = some k → W.cell? ⟨g, j, none⟩ = some (.int .i64 (k : Int))
theorem Rows.nil (W : World) (b0 : Nat) (skip : Option Nat) : Rows W b0 skip [] [] := ⟨rfl, fun i ns h => by simp at h⟩
theorem Rows.free {W : World} {b0 b1 : Nat} {skip : Option Nat} {L : List Value} {ms : List (List Nat)} (h : Rows W b0 skip L ms) (hb : b1 ≤ b0) : Rows W b1 none L ms := by
  refine ⟨h.len, fun i ns hi => ?_⟩
  obtain ⟨g, cap, h1, h2, h3, h4, h5⟩ := h.row i ns hi
  exact ⟨g, cap, h1, by omega, h3, by simp, h5⟩
theorem Rows.grown {W W' : World} {b0 : Nat} {skip row : Option Nat} {L : List Value} {ms : List (List Nat)} (h : Rows W b0 skip L ms) (hg : W.grownBy W' row) (hr : row = skip ∨ ∀ c, row = some c → c < b0 ∨ W.heap.size ≤ c) : Rows W' b0 skip L ms := by
  refine ⟨h.len, fun i ns hi => ?_⟩
  obtain ⟨g, cap, h1, h2, h3, h4, h5⟩ := h.row i ns hi
  refine ⟨g, cap, h1, h2, Nat.lt_of_lt_of_le h3 hg.size, h4, fun j k hj => ?_⟩
  refine (World.cell?_of_block (hg.block g h3 ?_)).trans (h5 j k hj)
  rintro e
  rcases hr with rfl | hr
  · exact h4 e.symm
  · have := hr g e.symm; omega
theorem Rows.snoc {W : World} {b0 : Nat} {skip skip' : Option Nat} {L : List Value} {ms : List (List Nat)} {ns : List Nat} {g cap : Nat} (h : Rows W b0 skip L ms) (h1 : b0 ≤ g) (h2 : g < W.heap.size) (h3 : skip' ≠ some g) (h4 : ∀ (j k : Nat), ns[j]? = some k → W.cell? ⟨g, j, none⟩ = some (.int .i64 (k : Int)))
    (hs : ∀ c, skip' = some c → skip = some c ∨ W.heap.size ≤ c) : Rows W b0 skip' (L ++ [.slice (some ⟨g, 0, none⟩) ns.length cap]) (ms ++ [ns]) := by
  refine ⟨by simp [h.len], fun i m hi => ?_⟩
  by_cases hil : i < ms.length
  · rw [List.getElem?_append_left hil] at hi
    obtain ⟨g', cap', a1, a2, a3, a4, a5⟩ := h.row i m hi
    refine ⟨g', cap', by rw [List.getElem?_append_left (by rw [h.len]; exact hil)]; exact a1, a2, a3, fun e => ?_, a5⟩
    rcases hs _ e with h | h
    · exact a4 h
    · omega
  · have hlt := (List.getElem?_eq_some_iff.1 hi).1
    simp at hlt
    obtain rfl : i = ms.length := by omega
    simp at hi
    subst hi
    exact ⟨g, cap, by rw [← h.len]; simp, h1, h2, h3, h4⟩
theorem Rows.app {W W' : World} {b0 : Nat} {skip : Option Nat} {L : List Value} {ms : List (List Nat)} {ns : List Nat} {g cap gg : Nat} (h : Rows W b0 skip L ms) (hg : W.grownBy W' skip) (hat : skip = some gg ∨ gg = W.heap.size) (h1 : b0 ≤ g) (h2 : g < W.heap.size) (h3 : skip ≠ some g)
    (h4 : ∀ (j k : Nat), ns[j]? = some k → W.cell? ⟨g, j, none⟩ = some (.int .i64 (k : Int))) : Rows W' b0 (some gg) (L ++ [.slice (some ⟨g, 0, none⟩) ns.length cap]) (ms ++ [ns]) := by
  have hs := (h.snoc (skip' := skip) (cap := cap) h1 h2 h3 h4 (fun c e => .inl e))
  refine ⟨hs.len, fun i m hi => ?_⟩
  obtain ⟨g', cap', a1, a2, a3, a4, a5⟩ := hs.row i m hi
  refine ⟨g', cap', a1, a2, Nat.lt_of_lt_of_le a3 hg.size, fun e => ?_, fun j k hj => (World.cell?_of_block (hg.block g' a3 (fun e => a4 e.symm))).trans (a5 j k hj)⟩
  rcases hat with h | h
  · exact a4 (h.trans e)
  · have : gg = g' := by simpa using e
    omega
theorem own_grown {W W' : World} {base : Nat} {e : TypeId} {size n : Nat} {v : Value} {xs : List Value} {row : Option Nat} (h : W.ownsRow base e size v n xs) (hg : W.grownBy W' row) (hne : ∀ g, v.ownBlock = some g → row ≠ some g) : W'.ownsRow base e size v n xs := by
  refine ⟨h.1, ?_⟩
  rcases h.2 with h0 | ⟨g, cap, cur, rfl, hb, hgc, hr⟩
  · exact .inl h0
  · refine .inr ⟨g, cap, cur, rfl, hb, ?_, hr⟩
    exact (hg.block g (Array.getElem?_eq_some_iff.1 hgc).1 (fun e => hne g rfl e.symm)).trans hgc
theorem own_base {W : World} {base : Nat} {e : TypeId} {size n : Nat} {v : Value} {xs : List Value} (h : W.ownsRow base e size v n xs) {g : Nat} (hg : v.ownBlock = some g) : base ≤ g ∧ g < W.heap.size := by
  rcases h.2 with ⟨rfl, h0⟩ | ⟨g', cap, cur, rfl, hb, hgc, hr⟩
  · cases hg
  · cases hg
    exact ⟨hb, (Array.getElem?_eq_some_iff.1 hgc).1⟩
theorem own_nil (W : World) (base : Nat) (e : TypeId) (size : Nat) : W.ownsRow base e size (.slice none 0 0) 0 [] := ⟨by simp, .inl ⟨rfl, rfl⟩⟩
/- The padding, a node at a time. -/
theorem pad_step {q n : Nat} (hq : 2 ≤ q) (hn : 1 ≤ n) (h : (n - 1) % (q - 1) ≠ 0) : padT q n = padT q (n + 1) + 1 := by
  unfold padT
  have hlt := Nat.mod_lt (n - 1) (show 0 < q - 1 by omega)
  have e : (n + 1 - 1) % (q - 1) = if (n - 1) % (q - 1) + 1 = q - 1 then 0 else (n - 1) % (q - 1) + 1 := by
    rw [show n + 1 - 1 = (n - 1) + 1 by omega, Nat.add_mod]
    by_cases h1 : q - 1 = 1
    · exfalso; rw [h1] at h; exact h (Nat.mod_one _)
    · rw [Nat.mod_eq_of_lt (show 1 < q - 1 by omega)]
      split
      · rename_i e; rw [e, Nat.mod_self]
      · exact Nat.mod_eq_of_lt (by omega)
  rw [e]
  split
  · rename_i e1
    rw [Nat.mod_eq_of_lt (show q - 1 - (n - 1) % (q - 1) < q - 1 by omega), Nat.sub_zero, Nat.mod_self]
    omega
  · rename_i e1
    rw [Nat.mod_eq_of_lt (show q - 1 - (n - 1) % (q - 1) < q - 1 by omega), Nat.mod_eq_of_lt (show q - 1 - ((n - 1) % (q - 1) + 1) < q - 1 by omega)]
    omega
theorem pad_done {q n : Nat} (h : (n - 1) % (q - 1) = 0) : padT q n = 0 := by unfold padT; rw [h, Nat.sub_zero, Nat.mod_self]
theorem start_pad {q : Nat} (hq : 2 ≤ q) {Ws : List Nat} (h1 : 1 ≤ Ws.length) (j : Nat) (h : (Ws.length + j - 1) % (q - 1) ≠ 0) (hj : j + padT q (Ws.length + j) = padT q Ws.length) : j + 1 + padT q (Ws.length + (j + 1)) = padT q Ws.length := by
  have := pad_step hq (show 1 ≤ Ws.length + j by omega) h
  rw [show Ws.length + (j + 1) = Ws.length + j + 1 by omega]
  omega
theorem sf_id_snoc (l : List (Nat × Bool)) (s : Nat) : sf (fun _ w => w) (l ++ [(s, true)]) = sf (fun _ w => w) l + s := sf_snoc _ l s
theorem sf_id_set {l : List (Nat × Bool)} {k w : Nat} (h : l[k]? = some (w, true)) : sf (fun _ w => w) l = w + sf (fun _ w => w) (l.set k (w, false)) := sf_set _ h
theorem sf_all : ∀ (X : List Nat) (o : Nat), sfG (fun _ w => w) o (X.map fun w => (w, true)) = X.sum
  | [], _ => rfl
  | x :: X, o => by simp [sfG, sf_all X]
end Go.Proofs.Gv
