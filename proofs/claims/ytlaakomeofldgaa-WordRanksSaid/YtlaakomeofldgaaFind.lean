/- word.Find: the iterator over the occurrences, and the list of them. -/
import Derived.RangeFuncNested
import Derived.RangeFuncBound
import Derived.RangeFuncCalls
import Derived.RangeFuncLeaves
import Derived.RangeFuncBox
import Derived.Shelf.Abstract
import Derived.WalkKit
import Derived.OwnWalkIn
import Derived.TacticsInMore
import Derived.LoopNIn
import Derived.LoopIn
import Derived.Maps.AppendAt
import Derived.BigQuiet
import Derived.Deep.RegionWith
import Derived.Deep.RegionHeld3
import Derived.Lib.Hide
import Derived.Deep.QuietTactic
import Derived.Test.YtlaakomeofldgaaShelf
import Derived.Test.YtlaakomeofldgaaOccP
import Derived.Test.YtlaakomeofldgaaBorder
namespace Go.Proofs.Gv
open Go Go.RowKit Go.Shelf
attribute [local go_sem] Oper.semAt_some

theorem ext_list (s : ByteArray) (k : Nat) : (s.extract k s.size).data.toList = s.data.toList.drop k := by
  rw [ByteArray.data_extract, Array.toList_extract, List.extract_eq_take_drop]
  rw [List.take_of_length_le]
  simp
theorem ext_size (s : ByteArray) (k : Nat) : (s.extract k s.size).size = s.size - k := by simp [ByteArray.size_extract]

/-- What a round keeps: what lay below n₀, and the two boxes. -/
def KpF (n₀ bu bw : Nat) (s u : ByteArray) (A B : World) : Prop :=
  Below n₀ A B ∧ (Boxed A bu 9 (.string u) → Boxed B bu 9 (.string u)) ∧ (Boxed A bw 9 (.string s) → Boxed B bw 9 (.string s))

set_option maxRecDepth 100000 in
set_option maxHeartbeats 1000000 in
theorem occ1_in (n : Nat) (hn : 1 ≤ n) (l bu bw n₀ : Nat) (h₀ : 0 < n₀) (s u : ByteArray) (m : Int) (hs : s.size ≤ 1000000) (hu : u.size ≤ 1000000) (J Jx : List Nat → World → Prop) (B₀ : Nat) (hAb : AbidesFrom B₀ J)
    (hY : ∀ pre (x : Nat) W, J pre W → pre.length < s.size + 1 → YieldAt Fence.wide (n - 1) Try.prog l #[.int .i64 x] W fun e W' =>
      (e = .returned (.bool true) ∧ J (pre ++ [x]) W' ∧ KpF n₀ bu bw s u W W') ∨ (e = .returned (.bool false) ∧ Jx (pre ++ [x]) W'))
    (W : World) (hm : W.cell? ⟨0, 0, none⟩ = some (.int .i64 m)) (hbu : Boxed W bu 9 (.string u)) (hbw : Boxed W bw 9 (.string s)) (h0 : J [] W) :
    CallsIn Fence.wide n Try.prog 80 #[.func (.yield l) #[] #[], .pointer (some ⟨bu, 0, none⟩), .pointer (some ⟨bw, 0, none⟩)] W fun e W' => (∃ v, e = .returned v) ∧
      ((∃ ys, ys = occL s.data.toList u.data.toList (s.size + 1) ∧ J ys W') ∨ (∃ pre, pre.length ≤ s.size + 1 ∧ Jx pre W')) := by
  refine callsIn_of_wp Try.func80 rfl trivial ?_ rfl
  simp only [Try.ntmps80, List.size_toArray, List.length_cons, List.length_nil, Nat.reduceAdd, Nat.reduceSub, Array.replicate_succ, Array.replicate_zero, List.push_toArray, List.append_toArray, List.nil_append, List.cons_append]
  gi_wp2
  gi_loopw [4] (fun p wr => ∃ k : Nat, p = .int .i64 k ∧ k ≤ s.size + 1 ∧ J (occL s.data.toList u.data.toList k) wr ∧ wr.cell? ⟨0, 0, none⟩ = some (.int .i64 m) ∧ Boxed wr bu 9 (.string u) ∧ Boxed wr bw 9 (.string s))
    (fun p _ => s.size + 1 - (intOf p).toNat)
  case atStart => exact ⟨0, rfl, by omega, h0, hm, hbu, hbw⟩
  case round =>
    obtain ⟨k, rfl, hk, hJ, hmr, hur, hwr⟩ := hrel
    have cu := hur.cell
    have cw := hwr.cell
    have hl : s.data.toList.length = s.size := by simp
    have hlu : u.data.toList.length = u.size := by simp
    by_cases hroom : k + u.size ≤ s.size
    · have t1 : (k : Int) + u.size ≤ s.size := by omega
      rcases occ_next (s := s.data.toList) (u := u.data.toList) (n := k) (by omega) with ⟨hx, hend⟩ | ⟨i, hx, hi, hnx⟩
      · have HC := Lib.hid (show Calls Try.prog 81 #[.string (s.extract k s.size), .string u] wr.drew fun e w' => e = .returned (.int .i64 (-1)) ∧ w' = wr.drew from (Try.strings_Index (s.extract k s.size) u m wr.drew (by rw [ext_size]; omega) (by exact hmr)).mono fun e w' h => ⟨by rw [h.1, ext_list, hx], h.2⟩)
        clear hx
        gi_wp2
        refine wpIn_wide.2 ?_
        go_region_with (go_at_call 81; refine (HC.out).mono ?_; rintro e w' ⟨rfl, rfl⟩)
        gi_wp2
        all_goals (
          refine ⟨fun _ h => (by cases h), ?_⟩
          gi_wp2
          refine bodyPost_ret (results_none rfl _ _ _) rfl ?_
          refine ⟨⟨_, rfl⟩, .inl ⟨_, rfl, ?_⟩⟩
          have he := Lib.hid hend
          rw [← hl, he.out]
          exact hAb _ wr wr.drew none hJ ⟨rfl, rfl, rfl, Nat.le_refl _, fun _ _ _ => rfl⟩ (fun r e => by cases e))
      · have hpl : (occL s.data.toList u.data.toList k).length < s.size + 1 := by have := occL_length s.data.toList u.data.toList k; omega
        obtain ⟨fn, tmps, assign, body, hy, hR⟩ := hY (occL s.data.toList u.data.toList k) (k + i) wr.drew (hAb _ wr wr.drew none hJ ⟨rfl, rfl, rfl, Nat.le_refl _, fun _ _ _ => rfl⟩ (fun r e => by cases e)) hpl
        rw [show ((k + i : Nat) : Int) = (k : Int) + i by omega] at hy
        have HC := Lib.hid (show Calls Try.prog 81 #[.string (s.extract k s.size), .string u] wr.drew fun e w' => e = .returned (.int .i64 (i)) ∧ w' = wr.drew from (Try.strings_Index (s.extract k s.size) u m wr.drew (by rw [ext_size]; omega) (by exact hmr)).mono fun e w' h => ⟨by rw [h.1, ext_list, hx], h.2⟩)
        clear hx
        gi_wp2
        refine wpIn_wide.2 ?_
        go_region_with (go_at_call 81; refine (HC.out).mono ?_; rintro e w' ⟨rfl, rfl⟩)
        gi_wp2
        all_goals (
          refine hR.mono ?_
          rintro e W3 (⟨rfl, hJ3, hk3, hku, hkw⟩ | ⟨rfl, hJx3⟩)
          · have hu3 := hku (by exact hur)
            have hw3 := hkw (by exact hwr)
            have hm3 : W3.cell? ⟨0, 0, none⟩ = some (.int .i64 m) := (hk3.cell (p := ⟨0, 0, none⟩) h₀).trans (by exact hmr)
            have HJ := Lib.hid hJ3
            have HN := Lib.hid hnx
            clear hR hy hY hJ3 hnx
            gi_wp2
            go_roundw
            case rel => exact ⟨k + i + 1, by congr 1, by omega, by rw [HN.out]; exact HJ.out, hm3, hu3, hw3⟩
            case measure => simp [intOf]; omega
          · gi_wp2
            refine bodyPost_ret (results_none rfl _ _ _) rfl ?_
            exact ⟨⟨_, rfl⟩, .inr ⟨_, by rw [List.length_append]; simp; omega, hJx3⟩⟩)
    · have t1 : ¬ (k : Int) + u.size ≤ s.size := by omega
      gi_wp2
      go_end0
      refine ⟨⟨_, rfl⟩, .inl ?_⟩
      rw [← hl, occ_end (n := k) (by omega) (by omega)]
      exact hJ

set_option maxHeartbeats 1000000 in
/-- The maker of the iterator: two boxes. -/
theorem occ_in (F : Fence) (n : Nat) (h5 : F.fn 49) (hro : F.round = none) (s u : ByteArray) (w : World) :
    CallsIn F n Try.prog 49 #[.string s, .string u] w fun e w' => e = .returned (.func (.func 80) #[] #[.pointer (some ⟨w.heap.size + 1, 0, none⟩), .pointer (some ⟨w.heap.size, 0, none⟩)]) ∧ w' = (w.alloc (.cells #[.string s] 9)).alloc (.cells #[.string u] 9) := by
  refine callsIn_of_wp Try.func49 rfl h5 ?_ hro
  simp only [Try.ntmps49, List.size_toArray, List.length_cons, List.length_nil, Nat.reduceAdd, Nat.reduceSub, Array.replicate_succ, Array.replicate_zero, List.push_toArray, List.append_toArray, List.nil_append, List.cons_append]
  gi_wp2
  go_ret
  exact ⟨rfl, rfl⟩

/-- The iterator: all offsets, or a part of them where a round has said 'no more'. -/
theorem occ_stops (n : Nat) (hn : 1 ≤ n) (bu bw n₀ : Nat) (h₀ : 0 < n₀) (s u : ByteArray) (m : Int) (hs : s.size ≤ 1000000) (hu : u.size ≤ 1000000) (w : World) (h0 : n₀ ≤ w.heap.size)
    (hm : w.cell? ⟨0, 0, none⟩ = some (.int .i64 m)) (hbu : Boxed w bu 9 (.string u)) (hbw : Boxed w bw 9 (.string s)) :
    SeqStopsK Fence.wide n Try.prog 80 #[.pointer (some ⟨bu, 0, none⟩), .pointer (some ⟨bw, 0, none⟩)] (fun x : Nat => #[Value.int .i64 x]) (KpF n₀ bu bw s u) (fun ys => ys = occL s.data.toList u.data.toList (s.size + 1)) (fun pre => pre.length ≤ s.size + 1) (s.size + 1) w := fun l J Jx W hW hJ _ hY hJ0 =>
  occ1_in n hn l bu bw n₀ h₀ s u m hs hu J Jx _ hJ hY W ((hW.cell (p := ⟨0, 0, none⟩) (by show 0 < _; omega)).trans hm) ((hW.block _ hbu.lt).trans hbu) ((hW.block _ hbw.lt).trans hbw) hJ0

theorem kpF_t {n₀ bu bw : Nat} {s u : ByteArray} {A B C : World} (h : KpF n₀ bu bw s u A B) (k : KpF n₀ bu bw s u B C) : KpF n₀ bu bw s u A C :=
  ⟨h.1.trans k.1, fun x => k.2.1 (h.2.1 x), fun x => k.2.2 (h.2.2 x)⟩
theorem boxed_putObj {W : World} {B t l : Nat} {v : Value} {o o' : Obj} (h : Boxed W B t v) (hl : W.heap[l]? = some o) (ho : o.isCells = false) : Boxed (W.putObj l o') B t v :=
  h.kept (grownBy_putObj' W l o') (fun e => by cases e; rw [show W.heap[B]? = _ from h] at hl; cases hl; cases ho)
theorem kpF_b {n₀ bu bw : Nat} {s u : ByteArray} {w : World} (hn : n₀ ≤ w.heap.size) (W : World) (l : Nat) (o o' : Obj) (hl : w.heap.size ≤ l) (h : W.heap[l]? = some o) (hc : o.isCells = false) (hk : o.isWalk = false) : KpF n₀ bu bw s u W (W.putObj l o') :=
  ⟨belowK_b hn W l o o' hl h hc hk, fun x => boxed_putObj x h hc, fun x => boxed_putObj x h hc⟩

/-- Numbers as values. -/
def intV (l : List Nat) : List Value := l.map fun (x : Nat) => .int .i64 x
theorem intV_snoc (l : List Nat) (x : Nat) : intV (l ++ [x]) = intV l ++ [.int .i64 x] := by simp [intV]

set_option maxRecDepth 100000 in
set_option maxHeartbeats 2000000 in
theorem Find_in (n : Nat) (hn : 3 ≤ n) (s u : ByteArray) (m : Int) (hs : s.size ≤ 1000000) (hu : u.size ≤ 1000000) (w : World) (hm : w.cell? ⟨0, 0, none⟩ = some (.int .i64 m)) (h₀ : 0 < w.heap.size) :
    CallsIn Fence.wide n Try.prog 19 #[.string s, .string u] w fun e W' => ∃ v, e = .returned v ∧ W'.ownsRow w.heap.size 3 1 v (occL s.data.toList u.data.toList (s.size + 1)).length (intV (occL s.data.toList u.data.toList (s.size + 1))) ∧ Below w.heap.size w W' := by
  have h1 : 1 ≤ n := by omega
  obtain ⟨i0, hi, hz0, hz1, hz2⟩ := info_parts Try.info3z
  refine callsIn_of_wp_marks Try.func19 rfl trivial ?_ rfl
  simp only [Try.ntmps19, List.size_toArray, List.length_cons, List.length_nil, Nat.reduceAdd, Nat.reduceSub, Array.replicate_succ, Array.replicate_zero, List.push_toArray, List.append_toArray, List.nil_append, List.cons_append]
  gi_wp2_with (refine ⟨trivial, ?_⟩; gi_at_call 49; refine (occ_in Fence.wide (n - 1) trivial rfl _ _ _).mono ?_; rintro e w' ⟨rfl, rfl⟩)
  have bO := Boxed.new w 29 (.slice none 0 0)
  have bW := Boxed.new (w.alloc (.cells #[.slice none 0 0] 29)) 9 (.string s)
  have bU := Boxed.new ((w.alloc (.cells #[.slice none 0 0] 29)).alloc (.cells #[.string s] 9)) 9 (.string u)
  simp only [World.size_alloc] at bW bU
  have hB0 : Below w.heap.size w (((w.alloc (.cells #[.slice none 0 0] 29)).alloc (.cells #[.string s] 9)).alloc (.cells #[.string u] 9)) := (((Below.refl _ w).alloc (Nat.le_refl _) _).alloc (by simp) _).alloc (by simp; omega) _
  refine wpIn_rangeFunc_ownG rfl h1 (gf := 80) (lb := #[.pointer (some ⟨w.heap.size + 1 + 1, 0, none⟩), .pointer (some ⟨w.heap.size + 1, 0, none⟩)]) rfl trivial (enters_of Try.func80 (by kernel_rfl) rfl)
    (occ_stops (n - 1) (by omega) (w.heap.size + 1 + 1) (w.heap.size + 1) w.heap.size h₀ s u m hs hu _ (by simp; omega) ((hB0.cell (p := ⟨0, 0, none⟩) (by exact h₀)).trans hm) bU (bW.alloc _)) kpF_t (kpF_b (by simp; omega)) (Below.refl _ _) (fun _ => rfl)
    (fun pre W => (∃ v, Boxed W w.heap.size 29 v ∧ W.ownsRow w.heap.size 3 1 v pre.length (intV pre) ∧ True) ∧ Below w.heap.size w W)
    (fun _ _ _ => False)
    (OwnFrom.and (Own.from (holdsRow_own w.heap.size w.heap.size 29 3 1 (fun pre => pre.length) (fun pre => intV pre) (fun _ _ => True)) _) (ownFrom_below (Nat.le_refl _) (by simp; omega)))
    (fun _ _ _ _ _ hs _ _ => hs)
    ⟨⟨_, (bO.alloc _).alloc _, World.ownsRow_nil _ _ _ _, trivial⟩, hB0⟩
    (fun x => { tmps := #[.string s, .string u, undef, undef, .slice none 0 0, .pointer (some ⟨w.heap.size, 0, none⟩), .int .i64 x, .string s, .string u, .func (.func 80) #[] #[.pointer (some ⟨w.heap.size + 1 + 1, 0, none⟩), .pointer (some ⟨w.heap.size + 1, 0, none⟩)], .int .i64 x, undef, undef, undef, undef, undef], defers := [] }) ?assign ?body ?done ?stop
  case assign =>
    intro l x W K hK
    gi_wp2
    exact hK
  case body =>
    rintro l pre x W ⟨⟨v, hv, hrow, _⟩, hB⟩ hlt
    have hc := hv.cell
    gi_wp2_with (gi_at_builtin; refine wpListIn_append_own _ rfl _ _ 29 rfl w.heap.size 3 i0 (.int .i64 0) 1 8 Try.underlying29 hi hz0 hz1 hz2 rfl (by decide) _ _ _ rfl (hrow.alloc _) ⟨W.heap.size, 0, none⟩ 1 1 [.int .i64 x] rfl rfl (cell_one_new _ _ _) (by simp [Value.oneCell']) (by unfold maxLen; omega) (by omega) (by have := hB.size; simp; omega) ?_; intro v' w1 hown' hgrow _; obtain ⟨g', cap', rfl⟩ := ownsRow_succ hown'; obtain ⟨hv1, hv2, hr2, hk2, hb2⟩ := hv.appended (by decide) hrow hB.size (Nat.le_refl _) hown' hgrow; have hc1 := hv1.cell; have hf1 := hv1.frozen)
    exact ⟨hk2.from _, ⟨hb2, fun hx => ((hx.alloc _).kept hgrow (hx.not_row (by decide) hrow)).other (by omega) _, fun hx => ((hx.alloc _).kept hgrow (hx.not_row (by decide) hrow)).other (by omega) _⟩, ⟨_, hv2, by rw [intV_snoc, List.length_append]; exact hr2, trivial⟩, hB.trans hb2⟩
  case done =>
    rintro D ys W hD rfl ⟨⟨v, hv, hrow, _⟩, hB⟩ hK
    have hc := hv.cell
    gi_wp2
    refine ⟨by simp, .inl ⟨_, _, rfl, run_takeDeferred hK, ?_⟩⟩
    exact ⟨_, results_tmp rfl _ _ _, v, rfl, ownsRow_putObj hrow _ hK rfl, hB.trans (belowK_b (w := w) (Nat.le_refl _) W D _ _ (by simp at hD; omega) hK rfl rfl)⟩
  case stop =>
    rintro D c pre W _ _ h _
    exact h.elim
end Go.Proofs.Gv
