/- awake of the chapter on words: it returns true. -/
import Derived.Test.YtlaakomeofldgaaAwake07P
import Derived.Test.YtlaakomeofldgaaGreatP
namespace Go.Proofs.Gv
open Go Go.RowKit

/-- One call more that makes memory alone. -/
theorem keepA {W : World} {b i : Nat} (h : b < W.heap.size) (o : Obj) : (W.alloc o).cell? ⟨b, i, none⟩ = W.cell? ⟨b, i, none⟩ :=
  ((Below.refl W.heap.size W).alloc (Nat.le_refl _) o).cell (p := ⟨b, i, none⟩) h
/-- The built slice lies above the found one. -/
theorem equalA (g c : Nat) (W : World) (hg : g < W.heap.size) (k0 : W.cell? ⟨g, 0, none⟩ = some (.int .i64 0)) (k1 : W.cell? ⟨g, 1, none⟩ = some (.int .i64 2)) :
    Calls Try.prog 18 #[.slice (some ⟨g, 0, none⟩) 2 c, .slice (some ⟨W.heap.size, 0, none⟩) 2 2] (W.alloc (.cells #[.int .i64 0, .int .i64 2] 3)) fun e w' => e = .returned (.bool true) ∧ ∃ q, w' = (W.alloc (.cells #[.int .i64 0, .int .i64 2] 3)).drewN q := by
  have hb := (Below.refl W.heap.size W).alloc (Nat.le_refl _) (.cells #[.int .i64 0, .int .i64 2] 3)
  obtain ⟨d0, d1, _, _, _⟩ := blk_facts (heap_alloc_new W (.cells #[.int .i64 0, .int .i64 2] 3))
  exact equal_ex g c W.heap.size 2 _ ((hb.cell (p := ⟨g, 0, none⟩) hg).trans k0) ((hb.cell (p := ⟨g, 1, none⟩) hg).trans k1) d0 d1
/-- The built slice was there before. -/
theorem equalB (g c : Nat) (W W1 W' : World) (k0 : W'.cell? ⟨g, 0, none⟩ = some (.int .i64 0)) (k1 : W'.cell? ⟨g, 1, none⟩ = some (.int .i64 2)) (h1 : W1 = W.alloc (.cells #[.int .i64 0, .int .i64 2] 3)) (hb : Below W1.heap.size W1 W') :
    Calls Try.prog 18 #[.slice (some ⟨g, 0, none⟩) 2 c, .slice (some ⟨W.heap.size, 0, none⟩) 2 2] W' fun e w' => e = .returned (.bool true) ∧ ∃ q, w' = W'.drewN q := by
  subst h1
  obtain ⟨d0, d1, _, _, h⟩ := blk_facts (heap_alloc_new W (.cells #[.int .i64 0, .int .i64 2] 3))
  exact equal_ex g c W.heap.size 2 _ k0 k1 ((hb.cell (p := ⟨W.heap.size, 0, none⟩) h).trans d0) ((hb.cell (p := ⟨W.heap.size, 1, none⟩) h).trans d1)

set_option maxRecDepth 100000 in
set_option maxHeartbeats 4000000 in
theorem awake07 (m : Int) (w : World) (hm : w.cell? ⟨0, 0, none⟩ = some (.int .i64 m)) (h₀ : 0 < w.heap.size) :
    Calls Try.prog 12 #[] w fun e w' => e = .returned (.bool true) ∧ Below w.heap.size w w' := by
  obtain ⟨sb, hsb⟩ : ∃ b, sgn 5 = b := ⟨_, rfl⟩
  obtain ⟨ms, hms⟩ : ∃ b, mg 5 = b := ⟨_, rfl⟩
  have HK := Lib.hid (fun W => hsb ▸ hms ▸ rank_101 W : ∀ W, Calls Try.prog 40 #[.int .i64 2, .string ⟨#[49, 48, 49]⟩] W fun e w' => e = .returned (.tuple #[.agg #[.bool sb, .string ms], .int .i64 0]) ∧ Below W.heap.size W w')
  have HOf := Lib.hid (fun W => hsb ▸ hms ▸ Of_any 5 W (by decide) (by decide) : ∀ W, Calls Try.prog 45 #[.int .i64 5] W fun e w' => e = .returned (.agg #[.bool sb, .string ms]) ∧ Below W.heap.size W w')
  have heq : eqI sb ms sb ms = true := eqI_iff.mpr ⟨rfl, rfl⟩
  clear hsb hms
  have HM := Lib.hid hm
  go_enter Try.func12, Try.ntmps12
  go_wp2_with (first
    | (go_at_call_of 35 (Value.string ⟨#[48, 49, 49]⟩); refine (next_011 _).mono ?_; rintro e w1 ⟨rfl, hb1⟩)
    | (go_at_call_of 35 (Value.string ⟨#[49, 49, 49]⟩); refine (next_111 _).mono ?_; rintro e w2 ⟨rfl, hb2⟩)
    | (go_at_call 40; refine (HK.out _).mono ?_; rintro e w3 ⟨rfl, hb3⟩)
    | (go_at_call 16; refine (root_ex _).mono ?_; rintro e w4 ⟨rfl, hb4⟩))
  have HB3 := Lib.hid (((bstep (Below.refl _ _) hb1).trans (hb2.mono (by have := hb1.size; omega))).trans (hb3.mono (by have := hb1.size; have := hb2.size; omega)) : Below w.heap.size w w3)
  have HB4 := Lib.hid (bstep (HB3.out.alloc HB3.out.size _) hb4)
  have hlt : w3.heap.size < (w3.alloc (.cells #[.bool sb, .string ms] 49)).heap.size := by simp
  obtain ⟨d0, d1, _, _, _⟩ := blk_facts (heap_alloc_new w3 (.cells #[.bool sb, .string ms] 49))
  have r0 : w4.cell? ⟨w3.heap.size, 0, none⟩ = some (.bool sb) := (hb4.cell (p := ⟨w3.heap.size, 0, none⟩) hlt).trans d0
  have r1 : w4.cell? ⟨w3.heap.size, 1, none⟩ = some (.string ms) := (hb4.cell (p := ⟨w3.heap.size, 1, none⟩) hlt).trans d1
  have l4' : w3.heap.size < w4.heap.size := Nat.lt_of_lt_of_le hlt hb4.size
  clear hb1 hb2 hb3 hb4 d0 d1 hlt hm
  obtain ⟨b3, hb3⟩ : ∃ b, w3.heap.size = b := ⟨_, rfl⟩
  have l4 : b3 < w4.heap.size := by have := HB4.out.size; rw [← hb3]; exact l4'
  rw [hb3] at r0 r1 ⊢
  clear hb3 l4'
  go_region_held3 (fun w' => w'.cell? ⟨b3, 0, none⟩ = some (.bool sb) ∧ w'.cell? ⟨b3, 1, none⟩ = some (.string ms)) (first
    | (go_keep; done)
    | exact ⟨(keepA l6 _).trans r60, (keepA l6 _).trans r61⟩
    | exact ⟨(keepA l5 _).trans r50, (keepA l5 _).trans r51⟩) (first
    | (go_at_call 45; refine (HOf.out _).mono ?_; rintro e w5 ⟨rfl, hb⟩; have HB5 := Lib.hid (bstep HB4.out hb); have r50 := (hb.cell (p := ⟨b3, 0, none⟩) (by exact l4)).trans (by exact r0); have r51 := (hb.cell (p := ⟨b3, 1, none⟩) (by exact l4)).trans (by exact r1); have l5 : b3 < w5.heap.size := Nat.lt_of_lt_of_le l4 hb.size; clear hb)
    | (go_at_call 19; refine (find_ex m _ (by first | exact (HB5.out.cell (p := ⟨0, 0, none⟩) h₀).trans HM.out | exact ((HB5.out.alloc HB5.out.size _).cell (p := ⟨0, 0, none⟩) h₀).trans HM.out) (by first | exact Nat.lt_of_lt_of_le h₀ HB5.out.size | exact Nat.lt_of_lt_of_le h₀ (HB5.out.alloc HB5.out.size _).size)).mono ?_; rintro e w6 ⟨g, c, rfl, hg, k0, k1, hb⟩; first | (have HB6 := Lib.hid (bstep HB5.out hb); have r60 := (hb.cell (p := ⟨b3, 0, none⟩) (by exact l5)).trans (by exact r50); have r61 := (hb.cell (p := ⟨b3, 1, none⟩) (by exact l5)).trans (by exact r51); have l6 : b3 < w6.heap.size := Nat.lt_of_lt_of_le l5 hb.size) | (have HB6 := Lib.hid (bstep (HB5.out.alloc HB5.out.size _) hb); have r60 := (hb.cell (p := ⟨b3, 0, none⟩) (by simp; omega)).trans ((keepA l5 _).trans r50); have r61 := (hb.cell (p := ⟨b3, 1, none⟩) (by simp; omega)).trans ((keepA l5 _).trans r51); have l6 : b3 < w6.heap.size := by have := hb.size; simp at this; omega); have H6 := Lib.hid hb; clear hb)
    | (go_at_call 18; first | ((with_reducible refine (equalA g c w6 hg k0 k1).mono ?_); rintro e w7 ⟨rfl, q7, rfl⟩; have HB7 := Lib.hid (below_drewN (HB6.out.alloc HB6.out.size (.cells #[.int .i64 0, .int .i64 2] 3)) q7)) | ((with_reducible refine (equalB g c w5 _ w6 k0 k1 rfl H6.out).mono ?_); rintro e w7 ⟨rfl, q7, rfl⟩; have HB7 := Lib.hid (below_drewN HB6.out q7)))
    | (go_at_call 13; refine (border_ex _).mono ?_; rintro e w8 ⟨rfl, hb⟩; have HB8 := Lib.hid (bstep HB7.out hb); first | (have r80 := (hb.cell (p := ⟨b3, 0, none⟩) (by exact l6)).trans (by exact r60); have r81 := (hb.cell (p := ⟨b3, 1, none⟩) (by exact l6)).trans (by exact r61); have l8 : b3 < w8.heap.size := Nat.lt_of_lt_of_le l6 hb.size) | (have r80 := (hb.cell (p := ⟨b3, 0, none⟩) (by simp; omega)).trans ((keepA l6 _).trans r60); have r81 := (hb.cell (p := ⟨b3, 1, none⟩) (by simp; omega)).trans ((keepA l6 _).trans r61); have l8 : b3 < w8.heap.size := by have := hb.size; simp at this; omega); clear hb)
    | (go_at_call 14; refine (period_ex _).mono ?_; rintro e w9 ⟨rfl, hb⟩; have HB9 := Lib.hid (bstep HB8.out hb); have r90 := (hb.cell (p := ⟨b3, 0, none⟩) (by exact l8)).trans (by exact r80); have r91 := (hb.cell (p := ⟨b3, 1, none⟩) (by exact l8)).trans (by exact r81); clear hb))
  all_goals (
    go_wp2
    go_ret
    exact ⟨rfl, HB9.out⟩)
end Go.Proofs.Gv
