/- tenengolts: the iterator of candidates. -/
import Derived.RangeFuncNested
import Derived.RangeFuncBound
import Derived.RangeFuncCalls
import Derived.RangeFuncLeaves
import Derived.RangeFuncBox
import Derived.OwnWalkIn
import Derived.TacticsInMore
import Derived.LoopNIn
import Derived.LoopIn
import Derived.Maps.AppendAt
import Derived.BigQuiet
import Derived.Deep.RegionWith
import Derived.Deep.RegionHeld3
import Derived.Deep.QuietTactic
import Derived.BigRegionIn
import Derived.Test.YtjnlfmhckdijlaaMixIn
import Derived.Test.YtjnlfmhckdijlaaTsy
set_option linter.unusedSimpArgs false
set_option linter.unusedVariables false
namespace Go.Proofs.Gv
open Go Go.RowKit Go.Shelf
attribute [local go_sem] Oper.semAt_some

theorem cutOut (w : ByteArray) (i : Nat) : w.extract 0 i ++ w.extract (i + 1) w.size = ofL (outL w.data.toList i) := by
  refine ba_ext ?_
  rw [ofL_list]
  unfold outL
  rw [ByteArray.data_append, Array.toList_append, ByteArray.data_extract, ByteArray.data_extract, Array.toList_extract, Array.toList_extract, List.extract_eq_take_drop, List.extract_eq_take_drop, List.drop_zero, Nat.sub_zero]
  congr 1
  rw [List.take_of_length_le]
  rw [List.length_drop, size_list]
  exact Nat.le_refl _
/-- What a round keeps: what lay below n₀, and the two boxes. -/
def KpC (n₀ bw bn : Nat) (w : ByteArray) (n : Int) (A B : World) : Prop :=
  Below n₀ A B ∧ (Boxed A bw 9 (.string w) → Boxed B bw 9 (.string w)) ∧ (Boxed A bn 3 (.int .i64 n) → Boxed B bn 3 (.int .i64 n))
def outs (w : ByteArray) : List ByteArray := (List.range w.size).map fun i => ofL (outL w.data.toList i)
theorem outs_len (w : ByteArray) : (outs w).length = w.size := by unfold outs; rw [List.length_map, List.length_range]
theorem outs_take {w : ByteArray} {k : Nat} (h : k < w.size) : (outs w).take (k + 1) = (outs w).take k ++ [w.extract 0 k ++ w.extract (k + 1) w.size] := by
  unfold outs
  rw [List.take_add_one, List.getElem?_map, List.getElem?_range h, cutOut]; rfl
set_option maxRecDepth 100000 in
set_option maxHeartbeats 1000000 in
theorem can1_in (n : Nat) (hn : 1 ≤ n) (l bw bn n₀ : Nat) (w : ByteArray) (m : Nat) (hs : w.size ≤ 900) (hm : m + 1 = w.size) (J Jx : List ByteArray → World → Prop) (B₀ : Nat) (hAb : AbidesFrom B₀ J)
    (hY : ∀ pre (x : ByteArray) W, x.size ≤ 1000 → J pre W → pre.length < w.size → YieldAt Fence.wide (n - 1) Try.prog l #[.string x] W fun e W' =>
      (e = .returned (.bool true) ∧ J (pre ++ [x]) W' ∧ KpC n₀ bw bn w m W W') ∨ (e = .returned (.bool false) ∧ Jx (pre ++ [x]) W'))
    (W : World) (hbw : Boxed W bw 9 (.string w)) (hbn : Boxed W bn 3 (.int .i64 m)) (h0 : J [] W) :
    CallsIn Fence.wide n Try.prog 27 #[.func (.yield l) #[] #[], .pointer (some ⟨bw, 0, none⟩), .pointer (some ⟨bn, 0, none⟩)] W fun e W' => (∃ v, e = .returned v) ∧
      ((∃ ys, ys = outs w ∧ J ys W') ∨ (∃ pre, pre <+: outs w ∧ Jx pre W')) := by
  have cw0 := hbw.cell
  have cn0 := hbn.cell
  have hd : ((w.size : Int) - (m : Int)) = 1 := by omega
  refine callsIn_of_wp Try.func27 rfl trivial ?_ rfl
  simp only [Try.ntmps27, List.size_toArray, List.length_cons, List.length_nil, Nat.reduceAdd, Nat.reduceSub, Array.replicate_succ, Array.replicate_zero, List.push_toArray, List.append_toArray, List.nil_append, List.cons_append]
  gi_wp2
  gi_loopw [19] (fun p wr => ∃ k : Nat, p = .int .i64 k ∧ k ≤ w.size ∧ J ((outs w).take k) wr ∧ Boxed wr bw 9 (.string w) ∧ Boxed wr bn 3 (.int .i64 m))
    (fun p _ => w.size - (intOf p).toNat)
  case atStart => exact ⟨0, rfl, by omega, h0, hbw, hbn⟩
  case round =>
    obtain ⟨k, rfl, hk, hJ, hwr, hnr⟩ := hrel
    by_cases hlt : k < w.size
    · have hltI : (k : Int) < w.size := by omega
      have hkI : (k : Int) + 1 ≤ w.size := by omega
      have HT := Lib.hid (outs_take hlt)
      have hpl : ((outs w).take k).length < w.size := by rw [List.length_take, outs_len]; omega
      have hJd := hAb _ wr wr.drew none hJ ⟨rfl, rfl, rfl, Nat.le_refl _, fun _ _ _ => rfl⟩ (fun r e => by cases e)
      have hwd : Boxed wr.drew bw 9 (.string w) := hwr
      have hnd : Boxed wr.drew bn 3 (.int .i64 m) := hnr
      gi_wp2
      refine wpIn_region_mix [.q [0, 1, 2, 3, 4, 5, 6, 7, 8], .r 9, .q [10]] FnW.wide (by kernel_rfl) (by kernel_rfl) (by intro d v c a w h; cases d <;> exact h) ?_
      obtain ⟨X0, hX⟩ : ∃ X, wr.drew = X := ⟨_, rfl⟩
      rw [hX] at hJd hwd hnd ⊢
      clear hX hJ hwr hnr
      obtain ⟨fn, tmps, assign, body, hy, hR⟩ := hY _ (w.extract 0 k ++ w.extract (k + 1) w.size) X0 (by simp only [ByteArray.size_append, ByteArray.size_extract]; omega) hJd hpl
      have HR := Lib.hid hR
      have HW := Lib.hid hwd
      have HN := Lib.hid hnd
      have hlb := hwd.lt
      have cw := hwd.cell
      clear hR hJd hpl hwd hnd
      refine wpMixW_q ?_
      simp only [pickO, List.map_cons, List.map_nil, List.getElem?_toArray, List.getElem?_cons_succ, List.getElem?_cons_zero, Option.getD_some]
      haveI := cw_some X0
      have x0 := fun u : Cw X0 => (by rw [u.h]; exact cw : u.x.cell? ⟨bw, 0, none⟩ = some (.string w))
      iterate 9 (go_big_quiet_step (fail))
      refine wpQuiet_nil ?_
      clear this x0
      refine wpMixW_r ?_
      simp only [pickO, List.map_cons, List.map_nil, List.getElem?_toArray, List.getElem?_cons_succ, List.getElem?_cons_zero, Option.getD_some]
      gi_wp2
      refine HR.out.mono ?_
      rintro e W3 (⟨rfl, hJ3, hk3, hkw, hkn⟩ | ⟨rfl, hJx3⟩)
      · have HJ := Lib.hid hJ3
        have hw3 := hkw HW.out
        have hn3 := hkn HN.out
        have HW3 := Lib.hid hw3
        have HN3 := Lib.hid hn3
        clear hJ3 hk3 hkw hkn hw3 hn3 HR HW HN hy
        gi_wp2
        refine mixQW_ok ?_
        refine wpMixW_q ?_
        simp only [pickO, List.map_cons, List.map_nil, List.getElem?_toArray, List.getElem?_cons_succ, List.getElem?_cons_zero, Option.getD_some]
        haveI := cw_some W3
        iterate 1 (go_big_quiet_step (fail))
        refine wpQuiet_nil ?_
        clear this
        refine wpMixW_nil ?_
        gi_wp2
        go_roundw
        case rel => exact ⟨k + 1, by go_num, by omega, by rw [HT.out]; exact HJ.out, HW3.out, HN3.out⟩
        case measure => simp [intOf]; omega
      · have HJ := Lib.hid hJx3
        clear hJx3 HR HW HN hy
        gi_wp2
        refine mixQW_ok ?_
        refine wpMixW_q ?_
        simp only [pickO, List.map_cons, List.map_nil, List.getElem?_toArray, List.getElem?_cons_succ, List.getElem?_cons_zero, Option.getD_some]
        haveI := cw_some W3
        iterate 1 (go_big_quiet_step (fail))
        refine wpQuiet_nil ?_
        clear this
        refine wpMixW_nil ?_
        gi_wp2
        refine bodyPost_ret (results_none rfl _ _ _) rfl ?_
        exact ⟨⟨_, rfl⟩, .inr ⟨_, by rw [← HT.out]; exact List.take_prefix _ _, HJ.out⟩⟩
    · obtain rfl : k = w.size := by omega
      have hB : decide ((w.size : Int) < w.size) = false := by simp
      gi_wp2
      go_end0
      refine ⟨⟨_, rfl⟩, .inl ⟨_, rfl, ?_⟩⟩
      rwa [List.take_of_length_le (by rw [outs_len]; exact Nat.le_refl _)] at hJ
theorem cutIn (w : ByteArray) (i : Nat) (h : i ≤ w.size) (c : UInt8) : w.extract 0 i ++ ⟨#[c]⟩ ++ w.extract i w.size = ofL (inL w.data.toList i c) := by
  refine ba_ext ?_
  rw [ofL_list]
  unfold inL
  rw [ByteArray.data_append, Array.toList_append, ByteArray.data_append, Array.toList_append, ByteArray.data_extract, ByteArray.data_extract, Array.toList_extract, Array.toList_extract, List.extract_eq_take_drop, List.extract_eq_take_drop, List.drop_zero, Nat.sub_zero, List.append_assoc]
  congr 1
  refine (show ∀ l : List UInt8, [c] ++ l = c :: l from fun _ => rfl) _ |>.trans ?_
  rw [List.take_of_length_le]
  rw [List.length_drop, size_list]
  exact Nat.le_refl _
theorem ins_size {w : ByteArray} {k : Nat} (h : k ≤ w.size) (hs : w.size ≤ 900) (c : UInt8) : (w.extract 0 k ++ ⟨#[c]⟩ ++ w.extract k w.size).size ≤ 1000 := by
  simp only [ByteArray.size_append, ByteArray.size_extract]
  show _ + 1 + _ ≤ 1000
  omega
def ins (w : ByteArray) (k : Nat) : List ByteArray := (List.range k).flatMap fun i => [ofL (inL w.data.toList i 48), ofL (inL w.data.toList i 49)]
theorem ins_len (w : ByteArray) (k : Nat) : (ins w k).length = 2 * k := by
  unfold ins
  induction k with
  | zero => rfl
  | succ k ih => rw [List.range_succ, List.flatMap_append, List.length_append, ih]; simp; omega
theorem ins_succ {w : ByteArray} {k : Nat} (h : k ≤ w.size) : ins w (k + 1) = ins w k ++ [w.extract 0 k ++ ⟨#[48]⟩ ++ w.extract k w.size] ++ [w.extract 0 k ++ ⟨#[49]⟩ ++ w.extract k w.size] := by
  unfold ins
  rw [List.range_succ, List.flatMap_append, cutIn w k h, cutIn w k h, List.append_assoc]
  rfl
theorem ins_pre {w : ByteArray} : ∀ {k m : Nat}, k ≤ m → ins w k <+: ins w m := by
  intro k m h
  induction m with
  | zero => obtain rfl : k = 0 := by omega
            exact List.prefix_refl _
  | succ m ih =>
    by_cases e : k = m + 1
    · subst e; exact List.prefix_refl _
    · refine (ih (by omega)).trans ?_
      unfold ins
      rw [List.range_succ, List.flatMap_append]
      exact List.prefix_append _ _
set_option maxRecDepth 100000 in
set_option maxHeartbeats 1000000 in
theorem can2_in (n : Nat) (hn : 1 ≤ n) (l bw bn n₀ : Nat) (w : ByteArray) (m : Nat) (hs : w.size ≤ 900) (hm : m = w.size + 1) (J Jx : List ByteArray → World → Prop) (B₀ : Nat) (hAb : AbidesFrom B₀ J)
    (hY : ∀ pre (x : ByteArray) W, x.size ≤ 1000 → J pre W → pre.length < 2 * m → YieldAt Fence.wide (n - 1) Try.prog l #[.string x] W fun e W' =>
      (e = .returned (.bool true) ∧ J (pre ++ [x]) W' ∧ KpC n₀ bw bn w m W W') ∨ (e = .returned (.bool false) ∧ Jx (pre ++ [x]) W'))
    (W : World) (hbw : Boxed W bw 9 (.string w)) (hbn : Boxed W bn 3 (.int .i64 m)) (h0 : J [] W) :
    CallsIn Fence.wide n Try.prog 27 #[.func (.yield l) #[] #[], .pointer (some ⟨bw, 0, none⟩), .pointer (some ⟨bn, 0, none⟩)] W fun e W' => (∃ v, e = .returned v) ∧
      ((∃ ys, ys = ins w m ∧ J ys W') ∨ (∃ pre, pre <+: ins w m ∧ Jx pre W')) := by
  have cw0 := hbw.cell
  have cn0 := hbn.cell
  have hd : ((w.size : Int) - (m : Int)) = -1 := by omega
  have HM := Lib.hid hm
  have hmb : m ≤ 901 := by omega
  clear hm
  refine callsIn_of_wp Try.func27 rfl trivial ?_ rfl
  simp only [Try.ntmps27, List.size_toArray, List.length_cons, List.length_nil, Nat.reduceAdd, Nat.reduceSub, Array.replicate_succ, Array.replicate_zero, List.push_toArray, List.append_toArray, List.nil_append, List.cons_append]
  gi_wp2
  gi_loopw [37] (fun p wr => ∃ k : Nat, p = .int .i64 k ∧ k ≤ m ∧ J (ins w k) wr ∧ Boxed wr bw 9 (.string w) ∧ Boxed wr bn 3 (.int .i64 m))
    (fun p _ => m - (intOf p).toNat)
  case atStart => exact ⟨0, rfl, by omega, h0, hbw, hbn⟩
  case round =>
    obtain ⟨k, rfl, hk, hJ, hwr, hnr⟩ := hrel
    by_cases hlt : k < m
    · have hltI : (k : Int) < m := by omega
      have hkI : (k : Int) ≤ w.size := by have := HM.out; omega
      have HT := Lib.hid (ins_succ (w := w) (k := k) (by have := HM.out; omega))
      have HSZ := Lib.hid (show (w.extract 0 k ++ ⟨#[48]⟩ ++ w.extract k w.size).size ≤ 1000 from ins_size (w := w) (k := k) (by have := HM.out; omega) hs 48)
      have HSY := Lib.hid (show (w.extract 0 k ++ ⟨#[49]⟩ ++ w.extract k w.size).size ≤ 1000 from ins_size (w := w) (k := k) (by have := HM.out; omega) hs 49)
      have HPX := Lib.hid (ins_pre (w := w) (show k + 1 ≤ m from hlt))
      have hpl : (ins w k).length < 2 * m := by rw [ins_len]; omega
      have hpl2 : ∀ x : ByteArray, (ins w k ++ [x]).length < 2 * m := fun x => by rw [List.length_append, ins_len]; show 2 * k + 1 < 2 * m; omega
      have hJd := hAb _ wr wr.drew none hJ ⟨rfl, rfl, rfl, Nat.le_refl _, fun _ _ _ => rfl⟩ (fun r e => by cases e)
      have hwd : Boxed wr.drew bw 9 (.string w) := hwr
      have hnd : Boxed wr.drew bn 3 (.int .i64 m) := hnr
      gi_wp2
      refine wpIn_region_mix [.q [0, 1, 2, 3, 4, 5, 6, 7, 8], .r 9, .q [10, 11, 12, 13, 14, 15, 16, 17, 18, 19, 20], .r 21, .q [22, 23]] FnW.wide (by kernel_rfl) (by kernel_rfl) (by intro d v c a w h; cases d <;> exact h) ?_
      obtain ⟨X0, hX⟩ : ∃ X, wr.drew = X := ⟨_, rfl⟩
      rw [hX] at hJd hwd hnd ⊢
      clear hX hJ hwr hnr
      have hYk := hY
      obtain ⟨fn, tmps, assign, body, hy, hR⟩ := hY _ _ X0 HSZ.out hJd hpl
      have HYK := Lib.hid hYk
      have HPL2 := Lib.hid hpl2
      have HR := Lib.hid hR
      have HW := Lib.hid hwd
      have HN := Lib.hid hnd
      have hlb := hwd.lt
      have cw := hwd.cell
      clear hR hJd hpl hwd hnd hY hYk hpl2
      refine wpMixW_q ?_
      simp only [pickO, List.map_cons, List.map_nil, List.getElem?_toArray, List.getElem?_cons_succ, List.getElem?_cons_zero, Option.getD_some]
      haveI := cw_some X0
      have x0 := fun u : Cw X0 => (by rw [u.h]; exact cw : u.x.cell? ⟨bw, 0, none⟩ = some (.string w))
      iterate 9 (go_big_quiet_step (fail))
      refine wpQuiet_nil ?_
      clear this x0
      refine wpMixW_r ?_
      simp only [pickO, List.map_cons, List.map_nil, List.getElem?_toArray, List.getElem?_cons_succ, List.getElem?_cons_zero, Option.getD_some]
      gi_wp2
      refine HR.out.mono ?_
      rintro e W3 (⟨rfl, hJ3, hk3, hkw, hkn⟩ | ⟨rfl, hJx3⟩)
      · have hw3 := hkw HW.out
        have hn3 := hkn HN.out
        obtain ⟨fn2, tmps2, assign2, body2, hy2, hR2⟩ := HYK.out _ _ W3 HSY.out hJ3 (HPL2.out _)
        have HR2 := Lib.hid hR2
        have HW3 := Lib.hid hw3
        have HN3 := Lib.hid hn3
        have hlb3 := hw3.lt
        have cw3 := hw3.cell
        clear hJ3 hk3 hkw hkn hw3 hn3 HR HW HN hy hR2 cw hlb
        gi_wp2
        refine mixQW_ok ?_
        refine wpMixW_q ?_
        simp only [pickO, List.map_cons, List.map_nil, List.getElem?_toArray, List.getElem?_cons_succ, List.getElem?_cons_zero, Option.getD_some]
        haveI := cw_some W3
        have x0 := fun u : Cw W3 => (by rw [u.h]; exact cw3 : u.x.cell? ⟨bw, 0, none⟩ = some (.string w))
        iterate 11 (go_big_quiet_step (fail))
        refine wpQuiet_nil ?_
        clear this x0
        refine wpMixW_r ?_
        simp only [pickO, List.map_cons, List.map_nil, List.getElem?_toArray, List.getElem?_cons_succ, List.getElem?_cons_zero, Option.getD_some]
        gi_wp2
        refine HR2.out.mono ?_
        rintro e W4 (⟨rfl, hJ4, hk4, hkw, hkn⟩ | ⟨rfl, hJx4⟩)
        · have HJ := Lib.hid hJ4
          have hw4 := hkw HW3.out
          have hn4 := hkn HN3.out
          have HW4 := Lib.hid hw4
          have HN4 := Lib.hid hn4
          clear hJ4 hk4 hkw hkn hw4 hn4 HR2 HW3 HN3 hy2 cw3 hlb3
          gi_wp2
          refine mixQW_ok ?_
          refine wpMixW_q ?_
          simp only [pickO, List.map_cons, List.map_nil, List.getElem?_toArray, List.getElem?_cons_succ, List.getElem?_cons_zero, Option.getD_some]
          haveI := cw_some W4
          iterate 2 (go_big_quiet_step (fail))
          refine wpQuiet_nil ?_
          clear this
          refine wpMixW_nil ?_
          gi_wp2
          go_roundw
          case rel => exact ⟨k + 1, by go_num, by omega, by rw [HT.out]; exact HJ.out, HW4.out, HN4.out⟩
          case measure => simp [intOf]; omega
        · have HJ := Lib.hid hJx4
          clear hJx4 HR2 HW3 HN3 hy2 cw3 hlb3
          gi_wp2
          refine mixQW_ok ?_
          refine wpMixW_q ?_
          simp only [pickO, List.map_cons, List.map_nil, List.getElem?_toArray, List.getElem?_cons_succ, List.getElem?_cons_zero, Option.getD_some]
          haveI := cw_some W4
          iterate 2 (go_big_quiet_step (fail))
          refine wpQuiet_nil ?_
          clear this
          refine wpMixW_nil ?_
          gi_wp2
          refine bodyPost_ret (results_none rfl _ _ _) rfl ?_
          exact ⟨⟨_, rfl⟩, .inr ⟨_, by rw [← HT.out]; exact HPX.out, HJ.out⟩⟩
      · have HJ := Lib.hid hJx3
        clear hJx3 HR HW HN hy cw hlb
        gi_wp2
        refine mixQW_ok ?_
        refine wpMixW_q ?_
        simp only [pickO, List.map_cons, List.map_nil, List.getElem?_toArray, List.getElem?_cons_succ, List.getElem?_cons_zero, Option.getD_some]
        haveI := cw_some W3
        iterate 11 (go_big_quiet_step (fail))
        refine wpQuiet_nil ?_
        clear this
        refine wpMixW_r ?_
        simp only [pickO, List.map_cons, List.map_nil, List.getElem?_toArray, List.getElem?_cons_succ, List.getElem?_cons_zero, Option.getD_some]
        gi_wp2
        refine ⟨fun _ _ => trivial, ?_⟩
        gi_wp2
        refine mixQW_ok ?_
        refine wpMixW_q ?_
        simp only [pickO, List.map_cons, List.map_nil, List.getElem?_toArray, List.getElem?_cons_succ, List.getElem?_cons_zero, Option.getD_some]
        haveI := cw_some W3
        iterate 2 (go_big_quiet_step (fail))
        refine wpQuiet_nil ?_
        clear this
        refine wpMixW_nil ?_
        gi_wp2
        refine bodyPost_ret (results_none rfl _ _ _) rfl ?_
        refine ⟨⟨_, rfl⟩, .inr ⟨_, ?_, HJ.out⟩⟩
        refine List.IsPrefix.trans ?_ HPX.out
        rw [HT.out]
        exact List.prefix_append _ _
    · obtain rfl : k = m := by omega
      have hB : decide ((k : Int) < k) = false := by simp
      gi_wp2
      go_end0
      exact ⟨⟨_, rfl⟩, .inl ⟨_, rfl, hJ⟩⟩
end Go.Proofs.Gv
