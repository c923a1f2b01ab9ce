/- grooveref07: All. -/
import Derived.Test.YtlaakomeofldgaaRefW
import Derived.Test.YtlaakomeofldgaaAll
import Derived.Deep.RegionHeld3
import Derived.Deep.AppendLies
import Derived.IntWalk
namespace Go.Proofs.Gv
open Go Go.RowKit

set_option maxRecDepth 100000 in
set_option maxHeartbeats 4000000 in
theorem rAll_any (q n : Nat) (w : World) (h1 : 1 ≤ q) (h2 : q ≤ 16) (hn : n ≤ 65536) :
    Calls Try.prog 34 #[.int .i64 q, .int .i64 n] w (RetAll q n w) := by
  obtain ⟨i0, hi, hz0, hz1, hz2⟩ := info_parts infoStrW
  have q1 : (1 : Int) ≤ q := by omega
  have q2 : (q : Int) ≤ 16 := by omega
  have q3 : decide ((q : Int) < 1) = false := decide_eq_false (by omega)
  have n1 : (0 : Int) ≤ n := by omega
  have n2 : (n : Int) ≤ 65536 := by omega
  go_enter Try.func34, Try.ntmps34
  go_wp2
  have hst : SRow (w.alloc (.cells #[.string ⟨#[]⟩] 9)) w.heap.size 1 (unS q 0) := by
    have h := heap_alloc_new w (.cells #[.string ⟨#[]⟩] 9)
    refine ⟨by simp, fun i hi => ?_⟩
    obtain rfl : i = 0 := by omega
    rw [cells_get h]; rfl
  go_loopg [6, 7] (n + 1) (fun gg o i wr => ∃ j N B c : Nat, i = .int .i64 j ∧ j ≤ n ∧ n + 1 - j ≤ gg ∧ N = q ^ j ∧ N ≤ 4096 ∧ 1 ≤ N ∧ o = .slice (some ⟨B, 0, none⟩) N c ∧ w.heap.size ≤ B ∧ SRow wr B N (unS q j) ∧ Below w.heap.size w wr)
  case atStart => exact ⟨0, 1, _, _, rfl, by omega, by omega, rfl, by omega, by omega, rfl, Nat.le_refl _, hst, (Below.refl _ _).alloc (Nat.le_refl _) _⟩
  case round =>
    obtain ⟨j, N, B, c, rfl, hj, hg, hN, hN1, hN2, rfl, hB, hrow, hb⟩ := hrel
    have HN := Lib.hid hN
    have HR := Lib.hid hrow
    have HB := Lib.hid hb
    clear hN hrow hb hst
    by_cases hlt : j < n
    · obtain ⟨M, hM⟩ : ∃ M, N * q = M := ⟨_, rfl⟩
      have hMi : (N : Int) * q = M := by rw [← hM]; push_cast; rfl
      have hMb : M ≤ 65536 := by rw [← hM]; exact Nat.mul_le_mul hN1 h2
      have hM0 : 1 ≤ M := by rw [← hM]; exact Nat.mul_pos hN2 (by omega)
      have HM := Lib.hid hM
      clear hM
      by_cases hbig : 4096 < M
      · have HF := Lib.hid (show 4096 < q ^ n by
          have : q ^ (j + 1) ≤ q ^ n := Nat.pow_le_pow_right (by omega) (by omega)
          rw [Nat.pow_succ, ← HN.out, HM.out] at this
          omega)
        go_wp2
        go_ret2
        exact ⟨.inr ⟨HF.out, rfl⟩, HB.out⟩
      · obtain ⟨wo, rfl⟩ : ∃ wo : World, wo = wr := ⟨_, rfl⟩
        have hown0 := World.ownsRow_made (base := wo.heap.size) (e := 9) (size := 1) wo #[] 0 (Nat.le_refl _) (by unfold maxLen; omega) (by rfl)
        have HW2 := (Below.refl wo.heap.size wo).alloc (Nat.le_refl _) (.cells #[] 9)
        have hown1 : (wo.alloc (.cells #[] 9)).ownsRow wo.heap.size 9 1 (.slice (some ⟨wo.heap.size, 0, none⟩) 0 0) (0 * q) (fw q (j + 1) (0 * q)) := by rw [Nat.zero_mul]; exact hown0
        clear hown0
        go_wp2
        go_loopg [8, 9, 10] (N + 1) (fun gg v k x wr => ∃ k' : Nat, k = .int .i64 k' ∧ k' ≤ N ∧ N + 1 - k' ≤ gg ∧ wr.ownsRow wo.heap.size 9 1 v (k' * q) (fw q (j + 1) (k' * q)) ∧ Below wo.heap.size wo wr)
        case atStart => exact ⟨0, rfl, by omega, by omega, hown1, HW2⟩
        case round =>
          clear hown1 HW2
          obtain ⟨k, rfl, hk, hgk, hownk, hbk⟩ := hrel
          by_cases hkN : k < N
          · have HOK := Lib.hid hownk
            have HBK := Lib.hid hbk
            clear hownk hbk
            go_wp2
            obtain ⟨wm, rfl⟩ : ∃ wm : World, wm = wr := ⟨_, rfl⟩
            go_loopg [8, 10] (q + 1) (fun gg v c wr => ∃ c' : Nat, c = .int .i64 c' ∧ c' ≤ q ∧ q + 1 - c' ≤ gg ∧ wr.ownsRow wo.heap.size 9 1 v (k * q + c') (fw q (j + 1) (k * q + c')) ∧ Below wo.heap.size wo wr)
            case atStart => exact ⟨0, rfl, by omega, by omega, HOK.out, HBK.out⟩
            case round =>
              obtain ⟨d, rfl, hd, hgd, hownd, hbd⟩ := hrel
              have hcell := (HR.out.below hbd HR.out.lt).cell k hkN
              have HBD := Lib.hid hbd
              clear hbd
              by_cases hdq : d < q
              · have hx := ltr_ext d (by omega)
                have hcat := unS_snoc (q := q) (n := j) (i := k) (c := d) hdq
                have hsz : (unS q j k).size ≤ 65536 := by rw [unS_size]; omega
                have hkq : k * q + d < M := by
                  have : (k + 1) * q ≤ N * q := Nat.mul_le_mul_right q hkN
                  rw [HM.out, Nat.add_mul] at this; omega
                obtain ⟨m, hm⟩ : ∃ m, k * q + d = m := ⟨_, rfl⟩
                obtain ⟨S, hS⟩ : ∃ S, unS q (j + 1) m = S := ⟨_, rfl⟩
                rw [hm, hS] at hcat
                have hadd : ∀ W, (Op.stringOp .add (unS q j k) ⟨#[ltr d]⟩).run Try.prog W = .ok (.string S) W := fun W => by rw [hcat]; exact run_string_add_sum W _ _ (by rw [unS_size]; show j + 1 ≤ _; omega)
                rw [hm] at hownd hkq
                have hcat' := hcat.symm
                clear hcat
                have hlen : M ≤ 65536 := hMb
                have HH := Lib.hid (show wo.heap.size ≤ wr.heap.size from HBD.out.size)
                have k0 : (0 : Int) ≤ (k : Int) := by omega
                have k1 : (k : Int) < (N : Int) := by omega
                have d0 : (0 : Int) ≤ (d : Int) := by omega
                have d1 : (d : Int) + 1 ≤ 16 := by omega
                have HS := Lib.hid hS
                have HMM := Lib.hid hm
                have HLB := Lib.hid (show B < wo.heap.size from HR.out.lt)
                clear hS hm
                have d2 : (d : Int) ≤ (d : Int) + 1 := by omega
                have d3 : (0 : Int) ≤ (d : Int) + 1 := by omega
                have d4 : ((d : Int) + 1).toNat = d + 1 := by omega
                have dw : IntKind.i64.wrap ((d : Int) + 1) = (d : Int) + 1 := IntWalk.i64_in _ (by omega)
                go_wp2_with fail
                go_region_held3 (fun w' => w'.cell? ⟨B, k, none⟩ = some (.string (unS q j k))) (first
                  | (go_keep; done)
                  | ((rw [hgrow.cell_far _ (by simp; have := HLB.out; have := HH.out; omega) (fun e => absurd (hownd.lt _ e.symm).1 (Nat.not_le_of_lt HLB.out))]; assumption)))
                  ((refine step_append_lies _ (by rfl) _ _ 39 (by rfl) wo.heap.size 9 i0 _ 1 16 Try.underlying39 hi hz0 hz1 hz2 rfl (by omega) _ _ _ (by rfl) ((hownd.alloc _).drew) ⟨wr.heap.size, 0, none⟩ 1 1 [.string S] (by rfl) (by rfl) (World.news_of_block (cs := #[.string S]) (t := 9) (fr := (0, 0)) (heap_alloc_new wr _)) (by simp [Value.oneCell']) (by omega) (by unfold maxLen; omega) (by omega) (by have := HH.out; simp; omega) (wr.heap.size + 1) (by simp) ?_; intro gg' cap w1 hown1 hgrow hat hlt))
                clear d2 d3 d4 dw hadd
                go_wp2
                go_roundg (q - d)
                case rel =>
                  rw [← HS.out, ← fw_succ, ← HMM.out] at hown1
                  rw [← HMM.out]
                  refine ⟨d + 1, by go_num, by omega, by omega, hown1, ?_⟩
                  exact ((HBD.out.alloc HH.out _).drew).grown hgrow (by have := HH.out; simp; omega) (fun k e => (hownd.lt k e).1)
                case measure => omega
              · obtain rfl : d = q := by omega
                go_wp2
                go_roundg (N - k)
                case rel => exact ⟨k + 1, by go_num, by omega, by omega, by rw [Nat.add_mul, Nat.one_mul]; exact hownd, HBD.out⟩
                case measure => omega
          · obtain rfl : k = N := by omega
            have hq1 : 0 < k * q := Nat.mul_pos hN2 (by omega)
            obtain ⟨g, cc, rfl, hBg, hrg⟩ := SRow.of_owns hownk hq1
            have hkq : k * q = M := HM.out
            have HM2 := Lib.hid (show M = q ^ (j + 1) by rw [Nat.pow_succ, ← HN.out, HM.out])
            rw [hkq] at hrg ⊢
            have HRG := Lib.hid hrg
            have HBK := Lib.hid hbk
            have HBO := Lib.hid (show w.heap.size ≤ wo.heap.size from HB.out.size)
            clear hownk hbk hrg hkq
            go_wp2
            go_roundg (n - j)
            case rel => exact ⟨j + 1, M, g, cc, by go_num, by omega, by omega, HM2.out, by omega, by omega, rfl, Nat.le_trans HBO.out hBg, HRG.out, HB.out.trans (HBK.out.mono HBO.out)⟩
            case measure => omega
    · obtain rfl : j = n := by omega
      go_wp2
      go_ret2
      refine ⟨.inl ⟨by rw [← HN.out]; exact hN1, B, c, by rw [← HN.out]; rfl, by rw [← HN.out]; exact HR.out⟩, HB.out⟩
end Go.Proofs.Gv
