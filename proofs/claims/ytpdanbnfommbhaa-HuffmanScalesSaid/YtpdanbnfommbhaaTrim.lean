/- integer.trim: the slice without the zeros at its end. -/
import Derived.Test.YtpdanbnfommbhaaRows
import Derived.Test.YtpdanbnfommbhaaKit
set_option linter.unusedSimpArgs false
set_option linter.unusedVariables false
namespace Go.Proofs.Gv
open Go Go.RowKit

theorem Try.info66z : (Try.prog.info? 66).map (fun i => (i.zero, i.size, i.bytes)) = some (some (.int .u32 0), 1, 4) := by kernel_rfl

theorem mk_nat (N : Int) (n : Nat) (e : N = n) (h : n ≤ 1000000000) (w : World) :
    (Instr.makeSlice 69 (.int .i64 N) (.int .i64 N)).run Try.prog w = .ok (.slice (some ⟨w.heap.size, 0, none⟩) n n) (w.alloc (.cells (madeCells #[.int .u32 0] n) 66)) := by
  subst e
  exact run_make_row' (P := Try.prog) 69 66 (.int .u32 0) 4 Try.underlying69 Try.info66z rfl .i64 .i64 n (by omega) (by omega) w
/-- What make lays for a natural: zeros. -/
theorem made_row (w : World) (n : Nat) : (w.alloc (.cells (madeCells #[.int .u32 0] n) 66)).rowIs w.heap.size 66 n (u32s fun _ => 0) := World.rowIs_made w _ n _

theorem trim_step {f : Nat → Nat} {m : Nat} (h0 : 0 < m) (h : f (m - 1) = 0) : val f (m - 1) = val f m := by
  obtain ⟨k, rfl⟩ : ∃ k, m = k + 1 := ⟨m - 1, by omega⟩
  rw [Nat.add_sub_cancel] at h ⊢
  rw [val, h]; simp

theorem trim_stop {f : Nat → Nat} {m : Nat} (h0 : 0 < m) (hf : ∀ i, i < m → f i < B32) (h : f (m - 1) ≠ 0) : nlen (val f m) = m := by
  obtain ⟨k, rfl⟩ : ∃ k, m = k + 1 := ⟨m - 1, by omega⟩
  rw [Nat.add_sub_cancel] at h
  have h1 := nlen_le_iff.2 (val_lt hf)
  have h2 : k < nlen (val f (k + 1)) := by
    rw [lt_nlen_iff, val]
    have : 1 * B32 ^ k ≤ f k * B32 ^ k := Nat.mul_le_mul_right _ (by omega)
    omega
  omega

set_option maxHeartbeats 400000 in
theorem trim_any (A : Option Addr) (n c : Nat) (f : Nat → Nat) (w : World) (hr : Rd w w.heap.size A n f) (hf : ∀ i, i < n → f i < B32) (hc : n ≤ c) (hn : c ≤ 1000000000) :
    Calls Try.prog 61 #[.slice A n c] w fun e w' => e = .returned (.slice A (nlen (val f n)) c) ∧ w = w' := by
  have Hf := Lib.hid hf
  clear hf
  go_enter Try.func61, Try.ntmps61
  go_wp2
  go_loop [0] (fun v => ∃ m : Nat, m ≤ n ∧ v = .slice A m c ∧ val f m = val f n) (fun v => slLen v)
  case atStart => exact ⟨n, Nat.le_refl _, rfl, rfl⟩
  case round =>
    obtain ⟨m, hm, rfl, ht⟩ := hrel
    have Ht := Lib.hid ht
    clear ht
    by_cases h0 : 0 < m
    · obtain ⟨g, rfl, hg, hcell⟩ := hr (by omega)
      have hcm := hcell (m - 1) (by omega)
      clear hcell hr
      go_wp2
      · have hz : ((f (m - 1) : Nat) == (0 : Int)) = true := by assumption
        go_round
        case rel => exact ⟨m - 1, by omega, rfl, (trim_step h0 (by simpa using hz)).trans Ht.out⟩
        case measure => simp [slLen]; omega
      · go_ret
        have hz : ((f (m - 1) : Nat) == (0 : Int)) = false := by assumption
        refine ⟨?_, rfl⟩
        rw [← Ht.out, trim_stop h0 (fun i hi => Hf.out i (by omega)) (fun e => by rw [e] at hz; cases hz)]
        rfl
    · have e : m = 0 := by omega
      subst e
      go_wp2
      go_ret
      have h1 : val f n = 0 := Ht.out.symm
      exact ⟨by rw [h1, nlen_zero]; rfl, rfl⟩

/-- At a row of the digits of z. -/
theorem trim_row {w : World} {g t n z : Nat} (h : w.rowIs g t n (u32s (D z))) (hz : z < B32 ^ n) (hn : n ≤ 1000000000) :
    Calls Try.prog 61 #[.slice (some ⟨g, 0, none⟩) n n] w fun e w' => e = .returned (.slice (some ⟨g, 0, none⟩) (nlen z) n) ∧ w = w' := by
  have := trim_any (some ⟨g, 0, none⟩) n n (D z) w (Rd.of_row h (Nat.le_refl _)) (fun i _ => D_lt z i) (Nat.le_refl _) hn
  rwa [val_D, Nat.mod_eq_of_lt hz] at this
end Go.Proofs.Gv
