/- HuffmanSums: the walk of the law. -/
import Derived.Test.YtpdanbnfommbhaaHnat
import Derived.Test.YtpdanbnfommbhaaHawk
import Derived.Test.YtpdanbnfommbhaaFront
set_option linter.unusedSimpArgs false
set_option linter.unusedVariables false
namespace Go.Proofs.Gv
open Go Go.RowKit Go.Maps

theorem grS_false {L : List (Bool × ByteArray)} (h : grS L = false) : (∀ x ∈ L, x.2.size ≤ 8) ∧ L.length ≤ 67 := by
  unfold grS at h
  simp only [Bool.or_eq_false_iff, Bool.and_eq_false_iff, decide_eq_false_iff_not] at h
  obtain ⟨h1, h2, h3⟩ := h
  refine ⟨fun x hx => ?_, by omega⟩
  unfold grB at h1
  rw [List.any_eq_false] at h1
  have := h1 x hx
  simpa using this
theorem VL_lt {Ws : List Nat} (h : ∀ x ∈ VL Ws, x.2.size ≤ 8) : ∀ z ∈ Ws, z < 2 ^ 64 := fun z hz =>
  mg_lt (h (false, mg z) (List.mem_map.2 ⟨z, hz, rfl⟩)) (by omega)
theorem lenH_pos {q : Nat} (hq : 2 ≤ q) {W : List Nat} (h2 : 2 ≤ W.length) : ∀ d ∈ lenH q W, 1 ≤ d := by
  intro d hd
  have hm := merges_ms (q := q) hq (Ws := W) (by omega)
  obtain ⟨-, -, -, a4⟩ := hm.sums hq (List.replicate ((startL q W).length + (mergesH q W).length) 0) (by rw [List.length_replicate]; exact Nat.le_refl _) (rep_zero _)
  obtain ⟨i, hi⟩ := List.getElem?_of_mem hd
  have hil : i < W.length := by have := (List.getElem?_eq_some_iff.1 hi).1; rwa [lenH_len] at this
  rw [lenH_at hil] at hi
  have e : (depH q W).getD i 0 = d := Option.some.inj hi
  rw [← e]
  exact a4 (by rw [startL_cf, startL_len]; omega) i W[i] (startL_at (List.getElem?_eq_getElem hil))
end Go.Proofs.Gv
