/- Arguments that are slices of merges, opened. -/
import Derived.Test.YtpdanbnfommbhaaHordP
import Derived.Test.YtpdanbnfommbhaaHjoB
set_option linter.unusedSimpArgs false
set_option linter.unusedVariables false
namespace Go.Proofs.Gv
open Go Go.RowKit Go.ChangeShapes Go.WideShapes Go.Deep

theorem mrgV_get : ∀ (l : List (Int × Int)) (j : Nat) (v : Value), (mrgV l)[j]? = some v → ∃ x, l[j / 2]? = some x ∧ v = if j % 2 = 0 then .int .i64 x.1 else .int .i64 x.2
  | [], j, v, h => by simp [mrgV] at h
  | x :: r, 0, v, h => by simp [mrgV] at h; exact ⟨x, rfl, by simp [h]⟩
  | x :: r, 1, v, h => by simp [mrgV] at h; exact ⟨x, rfl, by simp [h]⟩
  | x :: r, j + 2, v, h => by
    simp only [mrgV, List.getElem?_cons_succ] at h
    obtain ⟨y, h1, h2⟩ := mrgV_get r j v h
    exact ⟨y, by rw [show (j + 2) / 2 = j / 2 + 1 by omega]; simpa using h1, by rw [h2, show (j + 2) % 2 = j % 2 by omega]⟩
set_option maxRecDepth 100000 in
theorem open_Mrgs {H : Type} {enc : TypeId × Value → H} {W : World} {r : Reach} {b0 : Nat} {v : Value} {d : DataW H} {p : List MemPlace} (hval : Value.okWide Try.prog W r b0 25 v)
    (h : DataW.Trod enc Try.prog W 0 (fun _ => true) true 25 v d p) :
    ∃ (a : Option Addr) (L : List (Int × Int)) (cap : Nat), v = .slice a L.length cap ∧ L.length ≤ maxLen ∧ (∀ x ∈ L, (Lit.int .i64 x.1).wf = true ∧ (Lit.int .i64 x.2).wf = true) ∧ MrgA W (.slice a L.length cap) L ∧ (a = none → L = [] ∧ cap = 0) := by
  obtain ⟨a, len, cap, rfl⟩ := okWide_slice Try.underlying25 hval
  obtain ⟨fuel, hf⟩ := h
  rcases open_slice_fields Try.underlying25 Try.underlying39 (by kernel_rfl) (by kernel_rfl) hf with ⟨hcs, -⟩ | ⟨A, len', cap', m, D, Pl, hcs, -, hl, hm, hmm, -, hi⟩
  · simp [Value.cells] at hcs
    obtain ⟨rfl, rfl, rfl⟩ := hcs
    exact ⟨none, [], 0, rfl, Nat.zero_le _, fun x hx => (by cases hx), ⟨none, 0, rfl, fun i x hi => (by simp [mrgV] at hi)⟩, fun _ => ⟨rfl, rfl⟩⟩
  · simp [Value.cells] at hcs
    obtain ⟨rfl, rfl, rfl⟩ := hcs
    simp only [if_true] at hmm
    have key : ∀ i, i < len → ∃ x : Int × Int, (W.cell? (A.add (i * 2)) = some (.int .i64 x.1) ∧ W.cell? (A.add (i * 2 + 1)) = some (.int .i64 x.2)) ∧ (Lit.int .i64 x.1).wf = true ∧ (Lit.int .i64 x.2).wf = true := fun i hil => by
      obtain ⟨ys, n, -, -, -, hf⟩ := hi i (by omega)
      obtain ⟨v0, y0, c0, -, t0⟩ := hf 0 _ rfl
      obtain ⟨v1, y1, c1, -, t1⟩ := hf 1 _ rfl
      obtain ⟨n0, e0, -, w0⟩ := DataW.trod_int Try.underlying3 t0
      obtain ⟨n1, e1, -, w1⟩ := DataW.trod_int Try.underlying3 t1
      simp at e0 e1
      subst e0 e1
      exact ⟨(n0, n1), ⟨c0, c1⟩, w0, w1⟩
    obtain ⟨L, hL, hR⟩ := list_of key
    refine ⟨some A, L, cap, by rw [hL], by omega, fun x hx => ?_, ⟨some A, cap, by rw [hL], fun j x hj => ?_⟩, fun e => (by cases e)⟩
    · obtain ⟨i, hi⟩ := List.getElem?_of_mem hx
      exact (hR i x hi).2
    · obtain ⟨y, h1, h2⟩ := mrgV_get L j x hj
      obtain ⟨⟨a1, a2⟩, -⟩ := hR (j / 2) y h1
      refine ⟨A, rfl, ?_⟩
      rcases Nat.mod_two_eq_zero_or_one j with e | e
      · rw [e, if_pos rfl] at h2
        rw [show j / 2 * 2 = j by omega] at a1
        rw [h2]; exact a1
      · rw [e, if_neg (by decide)] at h2
        rw [show j / 2 * 2 + 1 = j by omega] at a2
        rw [h2]; exact a2
end Go.Proofs.Gv
