/- word.Find, Period, Root, Reverse: what they compute. -/
import Derived.Test.YtlaakomeofldgaaFind
import Derived.Shelf.SlicesE.Reverse
namespace Go.Proofs.Gv
open Go Go.RowKit Go.Shelf

theorem Find_any (s u : ByteArray) (m : Int) (hs : s.size ≤ 1000000) (hu : u.size ≤ 1000000) (w : World) (hm : w.cell? ⟨0, 0, none⟩ = some (.int .i64 m)) (h₀ : 0 < w.heap.size) :
    Calls Try.prog 19 #[.string s, .string u] w fun e W' => ∃ v, e = .returned v ∧ W'.ownsRow w.heap.size 3 1 v (occL s.data.toList u.data.toList (s.size + 1)).length (intV (occL s.data.toList u.data.toList (s.size + 1))) ∧ Below w.heap.size w W' :=
  callsIn_wide.1 (Find_in 3 (by omega) s u m hs hu w hm h₀)

/-- The period. -/
noncomputable def per (s : ByteArray) : Nat := s.size - mb (at' s) s.size
theorem mb_le (s : ByteArray) : mb (at' s) s.size ≤ s.size := by
  rcases Nat.eq_zero_or_pos s.size with h | h
  · rw [h, mb_zero]; omega
  · exact Nat.le_of_lt (mb_lt _ h)
theorem per_pos (s : ByteArray) (h : 0 < s.size) : 0 < per s := by
  have := mb_lt (at' s) h
  unfold per; omega
theorem per_le (s : ByteArray) : per s ≤ s.size := by unfold per; omega

set_option maxHeartbeats 800000 in
theorem Period_any (s : ByteArray) (w : World) (hs : s.size ≤ 100000) :
    Calls Try.prog 14 #[.string s] w fun e w' => e = .returned (.int .i64 (per s : Nat)) ∧ Below w.heap.size w w' := by
  have h1 := mb_le s
  have h2 : ((per s : Nat) : Int) = (s.size : Int) - (mb (at' s) s.size : Nat) := by unfold per; omega
  have H := Lib.hid h2
  clear h2
  go_enter Try.func14, Try.ntmps14
  go_wp2_with (go_at_call 13; refine (Border_any _ _ hs).mono ?_; rintro e w' ⟨rfl, hb⟩)
  go_ret
  refine ⟨?_, hb⟩
  rw [H.out]; rfl

/-- The number of letters of the root. -/
noncomputable def rl (s : ByteArray) : Nat := if s.size % per s = 0 then per s else s.size
theorem rl_le (s : ByteArray) : rl s ≤ s.size := by unfold rl; have := per_le s; split <;> omega
/-- The root comes back, and the number of its copies. -/
def RetRoot (s : ByteArray) (w : World) (e : Ending) (w' : World) : Prop := e = .returned (.tuple #[.string (s.extract 0 (rl s)), .int .i64 (s.size / rl s : Nat)]) ∧ Below w.heap.size w w'

theorem wrap_div {a b : Nat} (h : a ≤ 1000000) : wrap64 ((a : Int) / (b : Nat)) = ((a / b : Nat) : Int) := by
  have := Nat.div_le_self a b
  rw [← Int.natCast_ediv]
  generalize a / b = d at *
  unfold wrap64
  omega

set_option maxHeartbeats 800000 in
theorem Root_any (s : ByteArray) (w : World) (hs : s.size ≤ 100000) :
    Calls Try.prog 16 #[.string s] w (RetRoot s w) := by
  by_cases h0 : s.size = 0
  · obtain rfl : s = ⟨#[]⟩ := by rcases s with ⟨⟨l⟩⟩; have : l = [] := by simpa [ByteArray.size] using h0
                                 subst this; rfl
    have hr : rl ⟨#[]⟩ = 0 := Nat.le_zero.mp (rl_le ⟨#[]⟩)
    go_enter Try.func16, Try.ntmps16
    go_wp2
    go_ret2
    refine ⟨?_, Below.refl _ _⟩
    rw [hr]; rfl
  · have hp := per_pos s (by omega)
    have hp2 := per_le s
    have hne : s.toList.isEmpty = false := by
      rw [ByteArray.toList_eq]
      simp; intro h; apply h0; rcases s with ⟨⟨l⟩⟩; simpa [ByteArray.size] using h
    have hp3 : (0 : Int) < (per s : Nat) := by omega
    have hp4 : ((per s : Nat) : Int) ≤ s.size := by omega
    by_cases hd : s.size % per s = 0
    · have HR := Lib.hid (show rl s = per s by unfold rl; rw [if_pos hd])
      have hd' : ((s.size : Int) % (per s : Nat) != 0) = false := by
        have : ((s.size % per s : Nat) : Int) = 0 := by rw [hd]; rfl
        rw [Int.natCast_emod] at this
        rw [this]; rfl
      clear hd
      go_enter Try.func16, Try.ntmps16
      go_wp2_with (go_at_call 14; refine (Period_any _ _ hs).mono ?_; rintro e w' ⟨rfl, hb⟩)
      go_quiet (fail)
      go_wp2
      go_ret2
      refine ⟨?_, below_drewN hb _⟩
      rw [HR.out, ← wrap_div (by omega)]; rfl
    · have HR := Lib.hid (show rl s = s.size by unfold rl; rw [if_neg hd])
      have hd' : ((s.size : Int) % (per s : Nat) != 0) = true := by
        rw [bne_iff_ne]; intro h
        rw [← Int.natCast_emod] at h; exact hd (by omega)
      clear hd
      go_enter Try.func16, Try.ntmps16
      go_wp2_with (go_at_call 14; refine (Period_any _ _ hs).mono ?_; rintro e w' ⟨rfl, hb⟩)
      go_ret2
      refine ⟨?_, hb⟩
      have h1 : s.extract 0 s.size = s := by rw [ByteArray.ext_iff]; simp
      rw [HR.out, h1, Nat.div_self (by omega)]; rfl

end Go.Proofs.Gv
