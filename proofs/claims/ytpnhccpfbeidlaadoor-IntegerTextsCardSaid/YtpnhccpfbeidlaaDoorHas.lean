/- integer.Root's closure: whether a candidate is not too great. -/
import Derived.Test.YtpnhccpfbeidlaaDoorSet
import Derived.Test.YtpnhccpfbeidlaaDoorCompare
import Derived.Deep.RegionHeld3
namespace Go.Proofs.Gv
open Go Go.RowKit

theorem cmpN_le (x y : Nat) : decide (cmpN x y ≤ 0) = decide (x ≤ y) := by
  unfold cmpN
  rcases Nat.lt_trichotomy x y with h | h | h
  · rw [if_pos h]; simp; omega
  · subst h; simp
  · rw [if_neg (show ¬ x < y by omega), if_pos h]; simp; omega

set_option maxRecDepth 100000 in
set_option maxHeartbeats 1600000 in
theorem has_any (A Ax : Option Addr) (c cx r x n bn bx : Nat) (w : World) (hr : Nt w w.heap.size A c r) (hx : Nt w w.heap.size Ax cx x) (hn : nlen r * n ≤ 5000000) (hn1 : nlen r ≤ 5000000) (hn2 : n ≤ 5000000)
    (lb : bn < w.heap.size) (lx : bx < w.heap.size) (hcn : w.cell? ⟨bn, 0, none⟩ = some (.int .i64 n)) (hcx : w.cell? ⟨bx, 0, none⟩ = some (.slice Ax (nlen x) cx)) :
    Calls Tryd.prog 37 #[.slice A (nlen r) c, .pointer (some ⟨bn, 0, none⟩), .pointer (some ⟨bx, 0, none⟩)] w fun e w' => e = .returned (.bool (decide (r ^ n ≤ x))) ∧ Below w.heap.size w w' := by
  have hP := nlen_pow r n
  have HP := Lib.hid (fun W h => power_any A c r n W h hn hn1 (by omega))
  have HC := Lib.hid (fun A' c' W h1 h2 => compare_any A' Ax c' cx (r ^ n) x W h1 h2)
  have hle := cmpN_le (r ^ n) x
  obtain ⟨y, hy⟩ : ∃ y, r ^ n = y := ⟨_, rfl⟩
  rw [hy] at hP HP HC hle ⊢
  obtain ⟨cm, hcm⟩ : ∃ cm, cmpN y x = cm := ⟨_, rfl⟩
  rw [hcm] at HC hle
  have HLE := Lib.hid hle
  have HR := Lib.hid hr
  have HX := Lib.hid hx
  clear hy hcm hle hr hx
  go_enter Tryd.func37, Tryd.ntmps37
  go_wp2
  go_region_held3 (fun w' => w'.cell? ⟨bn, 0, none⟩ = some (.int .i64 n) ∧ w'.cell? ⟨bx, 0, none⟩ = some (.slice Ax (nlen x) cx)) (go_keep) (first
    | (go_at_call 39; refine (HP.out _ (by exact HR.out.same)).mono ?_; rintro e w1 ⟨A1, c1, rfl, hn', hb⟩; have HN1 := Lib.hid hn'; have hc1 := (hb.cell (p := ⟨bn, 0, none⟩) (by exact lb)).trans (by exact hcn); have hc2 := (hb.cell (p := ⟨bx, 0, none⟩) (by exact lx)).trans (by exact hcx); have HX1 := Lib.hid ((HX.out.same (w' := w.drew)).next hb); have HB := Lib.hid (show Below w.heap.size w w1 from ⟨hb.os, hb.tape, hb.output, hb.size, hb.block⟩); clear hb hn')
    | (go_at_call 38; refine (HC.out A1 c1 _ (by exact HN1.out.same) (by exact HX1.out.same)).mono ?_; rintro e w2 ⟨rfl, nq, rfl⟩))
  all_goals (
    go_wp2
    go_ret
    refine ⟨?_, below_drewN HB.out _⟩
    rw [← HLE.out]; rfl)
end Go.Proofs.Gv
