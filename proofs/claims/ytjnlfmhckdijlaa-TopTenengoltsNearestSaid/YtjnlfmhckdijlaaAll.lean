/- word.All: all words of a length. -/
import Derived.Test.YtjnlfmhckdijlaaWds
import Derived.Test.YtjnlfmhckdijlaaUnrank
set_option linter.unusedSimpArgs false
set_option linter.unusedVariables false
namespace Go.Proofs.Gv
open Go Go.RowKit

/-- The words come back, or the error 4. -/
def RetAll (q n : Nat) (w : World) (e : Ending) (w' : World) : Prop :=
  (q ^ n ≤ 4096 ∧ (∃ g c, e = .returned (.tuple #[.slice (some ⟨g, 0, none⟩) (q ^ n) c, .int .i64 0]) ∧ SRow w' g (q ^ n) (unS q n)) ∨ 4096 < q ^ n ∧ e = .returned (.tuple #[.slice none 0 0, .int .i64 4])) ∧ Below w.heap.size w w'

set_option maxRecDepth 100000 in
set_option maxHeartbeats 1600000 in
theorem All_one (n : Nat) (w : World) (hn : n ≤ 65536) :
    Calls Try.prog 20 #[.int .i64 1, .int .i64 n] w (RetAll 1 n w) := by
  obtain ⟨S, hS⟩ : ∃ S : ByteArray, (⟨(List.replicate n 48).toArray⟩ : ByteArray) = S := ⟨_, rfl⟩
  have HRp := Lib.hid (fun W => show Calls Try.prog 28 #[.string ⟨#[48]⟩, .int .i64 n] W (fun e w' => e = .returned (.string S) ∧ Below W.heap.size W w') from by
    have := Try.strings_Repeat ⟨#[48]⟩ n W (by omega) (by show 1 * n ≤ _; omega)
    rw [show (⟨#[48]⟩ : ByteArray).data.toList = [48] from rfl, rep48, hS] at this
    exact this)
  have HS := Lib.hid (show S = unS 1 n 0 by rw [← hS, unS_one])
  clear hS
  have n1 : (0 : Int) ≤ n := by omega
  have n2 : (n : Int) ≤ 65536 := by omega
  go_enter Try.func20, Try.ntmps20
  go_wp2_with (first
    | (go_at_call 25; refine (known_ok _ _ (by decide) (by decide)).mono ?_; rintro e w0 ⟨rfl, rfl⟩)
    | (go_at_call 28; refine (HRp.out _).mono ?_; rintro e w2 ⟨rfl, hb⟩))
  go_ret2
  have hnew := heap_alloc_new w2 (.cells #[.string S] 9)
  refine ⟨.inl ⟨by rw [Nat.one_pow]; decide, _, _, by rw [Nat.one_pow]; rfl, ⟨by simp, fun j hj => ?_⟩⟩, (bstep (Below.refl _ _) hb).alloc hb.size _⟩
  obtain rfl : j = 0 := by rw [Nat.one_pow] at hj; omega
  rw [cells_get hnew, ← HS.out]; rfl

set_option maxRecDepth 100000 in
set_option maxHeartbeats 4000000 in
theorem All_more (q n : Nat) (w : World) (h1 : 2 ≤ q) (h2 : q ≤ 16) (hn : n ≤ 65536) :
    Calls Try.prog 20 #[.int .i64 q, .int .i64 n] w (RetAll q n w) := by
  obtain ⟨i0, hi, hz0, hz1, hz2⟩ := info_parts infoStrW
  have q1 : (1 : Int) ≤ q := by omega
  have q2 : (q : Int) ≤ 16 := by omega
  have n1 : (0 : Int) ≤ n := by omega
  have n2 : (n : Int) ≤ 65536 := by omega
  have qb : ((q : Int) == 1) = false := by rw [beq_eq_false_iff_ne]; omega
  go_enter Try.func20, Try.ntmps20
  go_wp2_with (go_at_call 25; refine (known_ok _ _ q1 q2).mono ?_; rintro e w0 ⟨rfl, rfl⟩)
  have hst : SRow (w.alloc (.cells #[.string ⟨#[]⟩] 9)) w.heap.size 1 (unS q 0) := by
    have h := heap_alloc_new w (.cells #[.string ⟨#[]⟩] 9)
    refine ⟨by simp, fun i hi => ?_⟩
    obtain rfl : i = 0 := by omega
    rw [cells_get h]; rfl
  go_loopg [6, 28] (n + 1) (fun gg o i wr => ∃ j N B c : Nat, i = .int .i64 j ∧ j ≤ n ∧ n + 1 - j ≤ gg ∧ N = q ^ j ∧ N ≤ 4096 ∧ 1 ≤ N ∧ o = .slice (some ⟨B, 0, none⟩) N c ∧ w.heap.size ≤ B ∧ SRow wr B N (unS q j) ∧ Below w.heap.size w wr)
  case atStart => exact ⟨0, 1, _, _, rfl, by omega, by omega, rfl, by omega, by omega, rfl, Nat.le_refl _, hst, (Below.refl _ _).alloc (Nat.le_refl _) _⟩
  case round =>
    obtain ⟨j, N, B, c, rfl, hj, hg, hN, hN1, hN2, rfl, hB, hrow, hb⟩ := hrel
    have HN := Lib.hid hN
    have HR := Lib.hid hrow
    have HB := Lib.hid hb
    clear hN hrow hb hst
    by_cases hlt : j < n
    · obtain ⟨M, hM⟩ : ∃ M, N * q = M := ⟨_, rfl⟩
      have hMi : (N : Int) * q = M := by rw [← hM]; push_cast; rfl
      have hMb : M ≤ 65536 := by rw [← hM]; exact Nat.mul_le_mul hN1 h2
      have hM0 : 1 ≤ M := by rw [← hM]; exact Nat.mul_pos hN2 (by omega)
      have HM := Lib.hid hM
      clear hM
      by_cases hbig : 4096 < M
      · have HF := Lib.hid (show 4096 < q ^ n by
          have : q ^ (j + 1) ≤ q ^ n := Nat.pow_le_pow_right (by omega) (by omega)
          rw [Nat.pow_succ, ← HN.out, HM.out] at this
          omega)
        go_wp2
        go_ret2
        exact ⟨.inr ⟨HF.out, rfl⟩, HB.out⟩
      · obtain ⟨wo, rfl⟩ : ∃ wo : World, wo = wr := ⟨_, rfl⟩
        go_wp2_with (at_make; refine wpList_make_own _ rfl _ _ 27 rfl wo.heap.size 9 i0 (.string ⟨#[]⟩) 1 Try.underlying27 hi hz0 hz1 _ _ _ M rfl rfl rfl ?b2 ?b3 (by simp) ?_)
        case b2 => rw [hz2]; omega
        case b3 => unfold maxLen; omega
        intro w2 hown hgrow
        have HW2 : Below wo.heap.size wo w2 := ⟨hgrow.os, hgrow.tape, hgrow.output, hgrow.size, fun k hk => hgrow.block k hk (by simp)⟩
        have hown0 : w2.ownsRow wo.heap.size 9 1 (.slice (some ⟨wo.heap.size, 0, none⟩) 0 M) (0 * q) (fw q (j + 1) (0 * q)) := by rw [Nat.zero_mul]; exact hown
        clear hown hgrow
        go_wp2
        go_loopg [7, 42] (N + 1) (fun gg v k wr => ∃ k' : Nat, k = .int .i64 k' ∧ k' ≤ N ∧ N + 1 - k' ≤ gg ∧ wr.ownsRow wo.heap.size 9 1 v (k' * q) (fw q (j + 1) (k' * q)) ∧ Below wo.heap.size wo wr)
        case atStart => exact ⟨0, rfl, by omega, by omega, hown0, HW2⟩
        case round =>
          clear hown0 HW2
          obtain ⟨k, rfl, hk, hgk, hownk, hbk⟩ := hrel
          by_cases hkN : k < N
          · have hcell := (HR.out.below hbk HR.out.lt).cell k hkN
            have HOK := Lib.hid hownk
            have HBK := Lib.hid hbk
            clear hownk hbk
            go_wp2
            obtain ⟨wm, rfl⟩ : ∃ wm : World, wm = wr := ⟨_, rfl⟩
            clear hcell
            go_loopg [7, 47] (q + 1) (fun gg v c wr => ∃ c' : Nat, c = .int .i64 c' ∧ c' ≤ q ∧ q + 1 - c' ≤ gg ∧ wr.ownsRow wo.heap.size 9 1 v (k * q + c') (fw q (j + 1) (k * q + c')) ∧ Below wo.heap.size wo wr)
            case atStart => exact ⟨0, rfl, by omega, by omega, HOK.out, HBK.out⟩
            case round =>
              obtain ⟨d, rfl, hd, hgd, hownd, hbd⟩ := hrel
              have HBD := Lib.hid hbd
              clear hbd
              by_cases hdq : d < q
              · have hx := ltr_ext d (by omega)
                have hcat := unS_snoc (q := q) (n := j) (i := k) (c := d) hdq
                have hsz : (unS q j k).size ≤ 65536 := by rw [unS_size]; omega
                have hkq : k * q + d < M := by
                  have : (k + 1) * q ≤ N * q := Nat.mul_le_mul_right q hkN
                  rw [HM.out, Nat.add_mul] at this; omega
                obtain ⟨m, hm⟩ : ∃ m, k * q + d = m := ⟨_, rfl⟩
                obtain ⟨S, hS⟩ : ∃ S, unS q (j + 1) m = S := ⟨_, rfl⟩
                rw [hm, hS] at hcat
                rw [hm] at hownd hkq
                have hcat' := hcat.symm
                clear hcat
                have hlen : M ≤ 65536 := hMb
                have HH := Lib.hid (show wo.heap.size ≤ wr.heap.size from HBD.out.size)
                go_wp2_with (at_builtin; refine wpList_append_own _ rfl _ _ 27 rfl wo.heap.size 9 i0 (.string ⟨#[]⟩) 1 16 Try.underlying27 hi hz0 hz1 hz2 rfl (by decide) _ _ _ rfl (hownd.alloc _) ⟨wr.heap.size, 0, none⟩ 1 1 [.string S] rfl rfl (cell_one_new _ _ _) (by simp [Value.oneCell']) (by unfold maxLen; omega) (by omega) (by have := HH.out; simp; omega) ?_; intro v' w1 hown' hgrow' _)
                go_roundg (q - d)
                case rel =>
                  rw [← hS, ← fw_succ, ← hm] at hown'
                  exact ⟨d + 1, by go_num, by omega, by omega, hown', below_app HBD.out HH.out hownd hgrow'⟩
                case measure => omega
              · obtain rfl : d = q := by omega
                go_wp2
                go_roundg (N - k)
                case rel => exact ⟨k + 1, by go_num, by omega, by omega, by rw [Nat.add_mul, Nat.one_mul]; exact hownd, HBD.out⟩
                case measure => omega
          · obtain rfl : k = N := by omega
            have hq1 : 0 < k * q := Nat.mul_pos hN2 (by omega)
            obtain ⟨g, cc, rfl, hBg, hrg⟩ := SRow.of_owns hownk hq1
            have hkq : k * q = M := HM.out
            have HM2 := Lib.hid (show M = q ^ (j + 1) by rw [Nat.pow_succ, ← HN.out, HM.out])
            rw [hkq] at hrg ⊢
            have HRG := Lib.hid hrg
            have HBK := Lib.hid hbk
            have HBO := Lib.hid (show w.heap.size ≤ wo.heap.size from HB.out.size)
            clear hownk hbk hrg hkq
            go_wp2
            go_roundg (n - j)
            case rel => exact ⟨j + 1, M, g, cc, by go_num, by omega, by omega, HM2.out, by omega, by omega, rfl, Nat.le_trans HBO.out hBg, HRG.out, HB.out.trans (HBK.out.mono HBO.out)⟩
            case measure => omega
    · obtain rfl : j = n := by omega
      go_wp2
      go_ret2
      refine ⟨.inl ⟨by rw [← HN.out]; exact hN1, B, c, by rw [← HN.out]; rfl, by rw [← HN.out]; exact HR.out⟩, HB.out⟩
/-- All, at every number that is asked. -/
theorem All_any (q n : Nat) (w : World) (h1 : 1 ≤ q) (h2 : q ≤ 16) (hn : n ≤ 65536) :
    Calls Try.prog 20 #[.int .i64 q, .int .i64 n] w (RetAll q n w) := by
  rcases Nat.lt_or_ge 1 q with h | h
  · exact All_more q n w h h2 hn
  · obtain rfl : q = 1 := by omega
    exact All_one n w hn
end Go.Proofs.Gv
