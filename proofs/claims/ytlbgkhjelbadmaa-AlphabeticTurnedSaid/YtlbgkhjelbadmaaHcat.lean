/- slices.Grow of nothing, slices.Concat of two slices of integers. -/
import Derived.Test.YtlbgkhjelbadmaaHnatP
import Derived.Lib.AppendZeros
set_option linter.unusedSimpArgs false
set_option linter.unusedVariables false
namespace Go.Proofs.Gv
open Go Go.RowKit Go.Maps

theorem inV_one {l : List (Bool × ByteArray)} : ∀ u ∈ inV l, u.oneCell' = true := by
  induction l with
  | nil => intro u hu; simp [inV] at hu
  | cons x r ih =>
    intro u hu
    rcases List.mem_cons.1 hu with rfl | hu
    · rfl
    · rcases List.mem_cons.1 hu with rfl | hu
      · rfl
      · exact ih u hu
theorem inV_append : ∀ (a b : List (Bool × ByteArray)), inV (a ++ b) = inV a ++ inV b
  | [], b => rfl
  | x :: a, b => by simp only [List.cons_append, inV, inV_append a b]
theorem Sl.news {W : World} {A : Addr} {L : List (Bool × ByteArray)} (h : Sl W (some A) L) : ∀ j u, (inV L)[j]? = some u → W.cell? (A.add j) = some u := fun j u hj => by
  have := inV_cells (W := W) (A := A) L 0 (fun i n s hi => by
    obtain ⟨A', e, h1, h2⟩ := h i n s hi
    cases e
    rw [Nat.zero_add]
    exact ⟨h1, h2⟩) j u hj
  rwa [Nat.zero_mul, Nat.zero_add] at this
theorem gDrew' {W W' : World} {row : Option Nat} (h : W.drew.grownBy W' row) : W.grownBy W' row := ⟨h.os, h.tape, h.output, h.size, h.block⟩
set_option maxRecDepth 100000 in
set_option maxHeartbeats 1600000 in
theorem grow_any (n : Nat) (h1 : 1 ≤ n) (h2 : n ≤ 1000000) (w : World) :
    Calls Try.prog 65 #[.slice none 0 0, .int .i64 (n : Int)] w fun e w' => ∃ g c, e = .returned (.slice (some ⟨g, 0, none⟩) 0 c) ∧ w'.ownsRow w.heap.size 37 2 (.slice (some ⟨g, 0, none⟩) 0 c) 0 [] ∧ w.grownBy w' none := by
  obtain ⟨i0, hi0, hz0, hz1, hz2⟩ := info_parts infoI
  have hr := Lib.run_append_nil_zeros (P := Try.prog) w 32 3 32 37 i0 (.agg #[.bool false, .string ⟨#[]⟩]) .i64 .i64 Try.underlying32 Try.underlying3 hi0 hz0 n (by omega) (by omega) (by omega) (by rw [hz2]; omega)
  have HR := Lib.hid hr
  have hge := grownCap_ge w n 0 37
  have hle := grownCap_le_maxLen w n 0 37 (by unfold maxLen; omega)
  have HGE := Lib.hid (show _ ∧ _ from ⟨hge, hle⟩)
  have hnI : decide ((n : Int) < 0) = false := by simp
  have hnP : (0 : Int) < n := by omega
  clear hr hge hle hz0 hi0 hz1 hz2
  go_enter Try.func65, Try.ntmps65
  go_wp2_with (refine Lib.wpList_append_run w rfl _ _ _ _ rfl _ _ rfl rfl _ _ HR.out ?_)
  go_ret
  refine ⟨_, _, rfl, ⟨rfl, .inr ⟨w.heap.size, grownCap w n 0 37, _, rfl, Nat.le_refl _, heap_alloc_new w.drew _, Nat.zero_le _, HGE.out.2, ?_, rfl⟩⟩, gDrew' (World.grownBy_alloc w.drew _ none)⟩
  rw [Array.size_append, Go.size_zeroCells, Go.size_zeroCells]
  have := HGE.out.1
  simp [Value.cells]
  try omega
set_option maxRecDepth 100000 in
set_option maxHeartbeats 4000000 in
theorem concat_any (Bc : Nat) (A1 A2 : Addr) (c1 c2 : Nat) (L1 L2 : List (Bool × ByteArray)) (w : World) (hB : BC w Bc [.slice (some A1) L1.length c1, .slice (some A2) L2.length c2]) (h1 : Sl w (some A1) L1) (h2 : Sl w (some A2) L2) (hn : 1 ≤ L1.length + L2.length) (hm : L1.length + L2.length ≤ 1000000) :
    Calls Try.prog 36 #[.slice (some ⟨Bc, 0, none⟩) 2 2] w fun e w' => ∃ v, e = .returned v ∧ w'.ownsRow w.heap.size 37 2 v (L1.length + L2.length) (inV (L1 ++ L2)) ∧ w.grownBy w' none := by
  obtain ⟨i0, hi0, hz0, hz1, hz2⟩ := info_parts infoI
  have HB := Lib.hid hB
  have HS1 := Lib.hid h1
  have HS2 := Lib.hid h2
  have HGW := Lib.hid (fun W => grow_any (L1.length + L2.length) hn hm W)
  have x0 := hB.at 0 _ rfl
  have x1 := hB.at 1 _ rfl
  clear hB h1 h2
  go_enter Try.func36, Try.ntmps36
  go_wp2_with fail
  refine wp_loop_rounds 3 ?_
  rw [rounds_succ]
  go_wp2_with fail
  rw [rounds_succ]
  go_wp2_with fail
  rw [rounds_succ]
  go_wp2_with fail
  refine (HGW.out _).mono ?_
  rintro e w1 ⟨g, c, rfl, hown, hgr⟩
  have HO1 := Lib.hid hown
  have HG1 := Lib.hid hgr
  have HB1 := Lib.hid (HB.out.below (grown_below hgr))
  have HS1_1 := Lib.hid (HS1.out.below (grown_below hgr))
  have HS2_1 := Lib.hid (HS2.out.below (grown_below hgr))
  have HZ1 := Lib.hid hgr.size
  clear hown hgr x0 x1
  have x0 := HB1.out.at 0 _ rfl
  have x1 := HB1.out.at 1 _ rfl
  go_wp2_with fail
  refine wp_loop_rounds 3 ?_
  rw [rounds_succ]
  go_wp2_with (at_builtin; refine wpList_append_own_at _ rfl _ _ 32 rfl w.heap.size 37 i0 (.agg #[.bool false, .string ⟨#[]⟩]) 2 24 Try.underlying32 hi0 hz0 hz1 hz2 rfl (by decide) (.slice (some ⟨g, 0, none⟩) 0 c) 0 [] rfl HO1.out A1 L1.length c1 (inV L1) rfl (inV_len L1) HS1_1.out.news inV_one (by unfold maxLen; omega) (by omega) (by have := HZ1.out; omega) ?_; intro v2 w2 hown hgrow _ hat; have HO2 := Lib.hid hown; have HG2 := Lib.hid hgrow; have HA2 := Lib.hid hat; clear hown hgrow hat)
  have HGW2 := Lib.hid (HG1.out.andThen HG2.out (fun k e => .inl (own_base HO1.out e).1))
  have HB2 := Lib.hid (HB.out.below (grown_below HGW2.out))
  have HS2_2 := Lib.hid (HS2.out.below (grown_below HGW2.out))
  have HZ2 := Lib.hid HGW2.out.size
  clear x0 x1
  have y0 := HB2.out.at 0 _ rfl
  have y1 := HB2.out.at 1 _ rfl
  have HO2' := Lib.hid (show w2.ownsRow w.heap.size 37 2 v2 L1.length (inV L1) from by have := HO2.out; simpa using this)
  rw [rounds_succ]
  go_wp2_with (at_builtin; refine wpList_append_own_at _ rfl _ _ 32 rfl w.heap.size 37 i0 (.agg #[.bool false, .string ⟨#[]⟩]) 2 24 Try.underlying32 hi0 hz0 hz1 hz2 rfl (by decide) v2 L1.length (inV L1) rfl HO2'.out A2 L2.length c2 (inV L2) rfl (inV_len L2) HS2_2.out.news inV_one (by unfold maxLen; omega) (by omega) (by have := HZ2.out; omega) ?_; intro v3 w3 hown hgrow _ hat; have HO3 := Lib.hid hown; have HG3 := Lib.hid hgrow; have HA3 := Lib.hid hat; clear hown hgrow hat)
  have HGW3 := Lib.hid (HGW2.out.andThen HG3.out (fun k e => .inl (own_base HO2'.out e).1))
  rw [rounds_succ]
  go_wp2
  go_ret
  refine ⟨_, rfl, ?_, HGW3.out⟩
  rw [inV_append]
  exact HO3.out
end Go.Proofs.Gv
