/- Integers that are not negative, as contracts; small tools for rows. -/
import Derived.Test.YtpdanbnfommbhaaHmeq
import Derived.Test.YtpdanbnfommbhaaMix
import Derived.Deep.AppendLies
set_option linter.unusedSimpArgs false
set_option linter.unusedVariables false
namespace Go.Proofs.Gv
open Go Go.RowKit Go.Maps

theorem cOfN (d : Nat) (h : d < 2 ^ 62) (W : World) : Calls Try.prog 14 #[.int .i64 (d : Int)] W fun e w' => e = .returned (.agg #[.bool false, .string (mg d)]) ∧ Below W.heap.size W w' := by
  have := cOf (d : Int) (by omega) (by omega) W
  rwa [Int.natAbs_natCast, show sgn (d : Int) = false from decide_eq_false (by omega)] at this
theorem cAddN {x d : Nat} (N M : Nat) (hx : x < 2 ^ N) (hd : d < 2 ^ M) (hN : N ≤ 1000000) (hM : M ≤ 1000000) (W : World) :
    Calls Try.prog 15 #[.agg #[.bool false, .string (mg x)], .agg #[.bool false, .string (mg d)]] W fun e w' => e = .returned (.agg #[.bool false, .string (mg (x + d))]) ∧ Below W.heap.size W w' := by
  have := cAdd (VN_rp (N := N) hx (by omega)) (VN_rp (N := M) hd (by omega)) W
  rwa [show (x : Int) + (d : Int) = ((x + d : Nat) : Int) by simp, Int.natAbs_natCast, show sgn ((x + d : Nat) : Int) = false from decide_eq_false (by omega)] at this
theorem inV_VL_snoc (l : List Nat) (z : Nat) : inV (VL (l ++ [z])) = inV (VL l) ++ [.bool false, .string (mg z)] := by
  unfold VL; rw [List.map_append]; exact inV_snoc _ _
theorem VL_len (l : List Nat) : (VL l).length = l.length := by unfold VL; rw [List.length_map]
theorem VL_at {l : List Nat} {i z : Nat} (h : l[i]? = some z) : (VL l)[i]? = some (false, mg z) := by unfold VL; rw [List.getElem?_map, h]; rfl
theorem inV_VL_at {l : List Nat} {i z : Nat} (h : l[i]? = some z) : (inV (VL l))[i * 2]? = some (.bool false) ∧ (inV (VL l))[i * 2 + 1]? = some (.string (mg z)) := inV_at _ _ _ _ (VL_at h)
/-- The cells of a row of one's own. -/
theorem own_form {w : World} {base : Nat} {e : TypeId} {sz n g cap : Nat} {xs : List Value} (h : w.ownsRow base e sz (.slice (some ⟨g, 0, none⟩) n cap) n xs) : base ≤ g ∧ g < w.heap.size ∧ n ≤ cap ∧ ∀ i v, xs[i]? = some v → w.cell? ⟨g, i, none⟩ = some v := by
  rcases h.2 with ⟨e0, h0⟩ | ⟨g', cap', cur, hv, hb, hg, h1, h2, h3, h4⟩
  · cases e0
  · cases hv
    refine ⟨hb, (Array.getElem?_eq_some_iff.1 hg).1, h1, fun i v hi => ?_⟩
    rw [cell_of_row w g i cur e (0, 0) hg]
    rw [← h4, List.getElem?_take] at hi
    split at hi
    · simpa using hi
    · cases hi
/-- The weights of the nodes that are merged, in whatever order. -/
theorem ms_weights {q : Nat} {l : List (Nat × Bool)} {ms : List (List (Nat × Nat))} (h : Ms q l ms) : ∀ (a : List (List (Nat × Nat))) (ns : List (Nat × Nat)) (b : List (List (Nat × Nat))), ms = a ++ ns :: b → ∀ x ∈ ns, (l.map (·.1) ++ a.map sumW)[x.1]? = some x.2 := by
  induction h with
  | nil _ => intro a ns b e; simp at e
  | @cons l l' ns0 ms hT _ _ ih =>
    intro a ns b e x hx
    cases a with
    | nil =>
      simp only [List.nil_append, List.cons.injEq] at e
      obtain ⟨rfl, rfl⟩ := e
      have := (hT.took.at_ x hx).1
      rw [List.map_nil, List.append_nil, List.getElem?_map, this]
      rfl
    | cons y a =>
      simp only [List.cons_append, List.cons.injEq] at e
      have := ih a ns b e.2 x hx
      rw [List.map_append, hT.took.len, List.append_assoc] at this
      rw [← e.1]
      exact this
theorem start_two (Ws : List Nat) : (startL 2 Ws).map (·.1) = Ws := by
  have : padT 2 Ws.length = 0 := by unfold padT; rw [Nat.mod_one]
  unfold startL
  rw [this, List.replicate_zero, List.append_nil, List.map_map]
  exact (List.map_congr_left fun x _ => rfl).trans (List.map_id _)
theorem merges_ms {q : Nat} (hq : 2 ≤ q) {Ws : List Nat} (h1 : 1 ≤ Ws.length) : Ms q (startL q Ws) (mergesH q Ws) :=
  treeN_ms hq _ _ (by rw [startL_cf]; exact Nat.le_refl _) (startL_pos h1) (startL_mod hq h1)
/-- Each merge for two letters: its nodes, by number and weight. -/
theorem merges_at {Ws : List Nat} (h1 : 1 ≤ Ws.length) {i : Nat} {x y : Nat × Nat} (h : (mergesH 2 Ws)[i]? = some [x, y]) :
    (Ws ++ ((mergesH 2 Ws).take i).map sumW)[x.1]? = some x.2 ∧ (Ws ++ ((mergesH 2 Ws).take i).map sumW)[y.1]? = some y.2 := by
  obtain ⟨hi, e⟩ := List.getElem?_eq_some_iff.1 h
  have hm := merges_ms (q := 2) (Nat.le_refl 2) h1
  have hs : mergesH 2 Ws = (mergesH 2 Ws).take i ++ [x, y] :: (mergesH 2 Ws).drop (i + 1) := by
    rw [← e, ← List.drop_eq_getElem_cons hi, List.take_append_drop]
  have key := ms_weights hm _ _ _ hs
  rw [start_two] at key
  exact ⟨key x (by simp), key y (by simp)⟩
end Go.Proofs.Gv
