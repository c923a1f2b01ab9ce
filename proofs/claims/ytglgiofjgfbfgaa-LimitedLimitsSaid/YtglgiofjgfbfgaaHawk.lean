/- groovelaw38.awake: the witness. -/
import Derived.Test.YtglgiofjgfbfgaaHmeqP
import Derived.Test.YtglgiofjgfbfgaaIntNegP
import Derived.Test.YtglgiofjgfbfgaaMix
set_option linter.unusedSimpArgs false
set_option linter.unusedVariables false
namespace Go.Proofs.Gv
open Go Go.RowKit Go.Maps

theorem chkR_VL : ∀ Ws : List Nat, chkR (VL Ws) = 0
  | [] => rfl
  | z :: r => by
    have hc : Canon false (mg z) := by
      have := canon_V (z : Int)
      rwa [Int.natAbs_natCast, show sgn (z : Int) = false from decide_eq_false (by omega)] at this
    have hi : ¬ iv false (mg z) < 0 := by unfold iv; rw [if_neg (by decide)]; omega
    have ih := chkR_VL r
    show chkR ((false, mg z) :: VL r) = 0
    unfold chkR
    rw [if_pos hc, if_neg hi]
    exact ih
theorem VL_inj {A B : List Nat} (h : VL A = VL B) : A = B := by
  have key : ∀ l : List Nat, (VL l).map (fun x => bv x.2.data.toList) = l := fun l => by
    unfold VL
    rw [List.map_map]
    refine (List.map_congr_left fun x _ => ?_).trans (List.map_id l)
    exact bv_mg x
  rw [← key A, ← key B, h]
theorem chkW_VL {Ws : List Nat} (h1 : 2 ≤ Ws.length) (h2 : Ws.length ≤ 64) : chkW (VL Ws) = 0 := by
  have hl : (VL Ws).length = Ws.length := by unfold VL; rw [List.length_map]
  unfold chkW
  rw [hl, if_neg (by omega), if_neg (by omega), chkR_VL]
theorem natV_ints (l : List Nat) : natV l = intsV (l.map fun (k : Nat) => (k : Int)) := (intsV_nat l).symm
theorem Nums.rowAt {W W' : World} {v : Value} {d : List Nat} (h : Nums W W' v d) : RowAt W' v (natV d) := by
  obtain ⟨g, c, rfl, _, _, h4⟩ := h
  refine ⟨some ⟨g, 0, none⟩, c, by rw [natV_len], fun i x hi => ⟨g, rfl, ?_⟩⟩
  unfold natV at hi
  rw [List.getElem?_map] at hi
  cases hd : d[i]? with
  | none => rw [hd] at hi; cases hi
  | some k => rw [hd] at hi; cases hi; exact h4 i k hd
theorem Nums.below {W W' W2 : World} {v : Value} {d : List Nat} (h : Nums W W' v d) (hb : Below W'.heap.size W' W2) : Nums W W2 v d := by
  obtain ⟨g, c, rfl, h2, h3, h4⟩ := h
  exact ⟨g, c, rfl, h2, Nat.lt_of_lt_of_le h3 hb.size, fun i k hi => (hb.cell (p := ⟨g, i, none⟩) h3).trans (h4 i k hi)⟩
theorem MrgAt.below {W W' : World} {v : Value} {ps : List (Int × Int)} (h : MrgAt W v ps) (hb : Below W.heap.size W W') : MrgAt W' v ps := by
  obtain ⟨a, c, rfl, hat⟩ := h
  refine ⟨a, c, rfl, fun i x hi => ?_⟩
  obtain ⟨g, rfl, hc⟩ := hat i x hi
  exact ⟨g, rfl, (hb.cell (p := ⟨g, i, none⟩) (World.block_lt_of_cell? W _ hc)).trans hc⟩
theorem eqInt_any {W0 W : World} {g c p c2 n : Nat} {xs ys : List Int} (hx : xs.length = n) (hy : ys.length = n) (hn : n ≤ 1000) (hu : ∀ i x, (intsV xs)[i]? = some x → W.cell? ⟨g, i, none⟩ = some x) (hv : ∀ i x, (intsV ys)[i]? = some x → W.cell? ⟨p, i, none⟩ = some x) :
    Calls Try.prog 16 #[.slice (some ⟨g, 0, none⟩) n c, .slice (some ⟨p, 0, none⟩) n c2] W fun e w' => e = .returned (.bool (xs == ys)) ∧ Below W.heap.size W w' := by
  have key : ∀ (l : List Int) (q : Nat), (∀ i x, (intsV l)[i]? = some x → W.cell? ⟨q, i, none⟩ = some x) → ∀ j, j < l.length → W.cell? ⟨q, 0 + j, none⟩ = some (.int .i64 (l.getD j 0)) := fun l q h j hj => by
    rw [Nat.zero_add]
    refine h j _ ?_
    unfold intsV
    rw [List.getElem?_map, List.getElem?_eq_getElem hj, List.getD_eq_getElem?_getD, List.getElem?_eq_getElem hj]
    rfl
  refine (Try.slices_Equal_int g 0 n c p 0 n c2 xs ys W (by omega) (by omega) (by omega) (by omega) (key xs g hu) (key ys p hv)).mono ?_
  rintro e w' ⟨rfl, q, rfl⟩
  exact ⟨by rw [List.take_of_length_le (by omega), List.take_of_length_le (by omega)], below_drewN (Below.refl _ W)⟩
end Go.Proofs.Gv
