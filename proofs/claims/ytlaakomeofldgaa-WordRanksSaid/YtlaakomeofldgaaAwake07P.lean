/- word.Find, Period, Root, Reverse: what they compute. -/
import Derived.Test.YtlaakomeofldgaaFind
import Derived.Shelf.SlicesE.Reverse
import Derived.Test.YtlaakomeofldgaaNext
import Derived.Test.YtlaakomeofldgaaRank
namespace Go.Proofs.Gv
open Go Go.RowKit Go.Shelf

theorem Find_any (s u : ByteArray) (m : Int) (hs : s.size ≤ 1000000) (hu : u.size ≤ 1000000) (w : World) (hm : w.cell? ⟨0, 0, none⟩ = some (.int .i64 m)) (h₀ : 0 < w.heap.size) :
    Calls Try.prog 19 #[.string s, .string u] w fun e W' => ∃ v, e = .returned v ∧ W'.ownsRow w.heap.size 3 1 v (occL s.data.toList u.data.toList (s.size + 1)).length (intV (occL s.data.toList u.data.toList (s.size + 1))) ∧ Below w.heap.size w W' :=
  callsIn_wide.1 (Find_in 3 (by omega) s u m hs hu w hm h₀)

/-- The period. -/
noncomputable def per (s : ByteArray) : Nat := s.size - mb (at' s) s.size
theorem mb_le (s : ByteArray) : mb (at' s) s.size ≤ s.size := by
  rcases Nat.eq_zero_or_pos s.size with h | h
  · rw [h, mb_zero]; omega
  · exact Nat.le_of_lt (mb_lt _ h)
theorem per_pos (s : ByteArray) (h : 0 < s.size) : 0 < per s := by
  have := mb_lt (at' s) h
  unfold per; omega
theorem per_le (s : ByteArray) : per s ≤ s.size := by unfold per; omega

set_option maxHeartbeats 800000 in
theorem Period_any (s : ByteArray) (w : World) (hs : s.size ≤ 100000) :
    Calls Try.prog 14 #[.string s] w fun e w' => e = .returned (.int .i64 (per s : Nat)) ∧ Below w.heap.size w w' := by
  have h1 := mb_le s
  have h2 : ((per s : Nat) : Int) = (s.size : Int) - (mb (at' s) s.size : Nat) := by unfold per; omega
  have H := Lib.hid h2
  clear h2
  go_enter Try.func14, Try.ntmps14
  go_wp2_with (go_at_call 13; refine (Border_any _ _ hs).mono ?_; rintro e w' ⟨rfl, hb⟩)
  go_ret
  refine ⟨?_, hb⟩
  rw [H.out]; rfl

/-- The number of letters of the root. -/
noncomputable def rl (s : ByteArray) : Nat := if s.size % per s = 0 then per s else s.size
theorem rl_le (s : ByteArray) : rl s ≤ s.size := by unfold rl; have := per_le s; split <;> omega
/-- The root comes back, and the number of its copies. -/
def RetRoot (s : ByteArray) (w : World) (e : Ending) (w' : World) : Prop := e = .returned (.tuple #[.string (s.extract 0 (rl s)), .int .i64 (s.size / rl s : Nat)]) ∧ Below w.heap.size w w'

theorem wrap_div {a b : Nat} (h : a ≤ 1000000) : wrap64 ((a : Int) / (b : Nat)) = ((a / b : Nat) : Int) := by
  have := Nat.div_le_self a b
  rw [← Int.natCast_ediv]
  generalize a / b = d at *
  unfold wrap64
  omega

set_option maxHeartbeats 800000 in
theorem Root_any (s : ByteArray) (w : World) (hs : s.size ≤ 100000) :
    Calls Try.prog 16 #[.string s] w (RetRoot s w) := by
  by_cases h0 : s.size = 0
  · obtain rfl : s = ⟨#[]⟩ := by rcases s with ⟨⟨l⟩⟩; have : l = [] := by simpa [ByteArray.size] using h0
                                 subst this; rfl
    have hr : rl ⟨#[]⟩ = 0 := Nat.le_zero.mp (rl_le ⟨#[]⟩)
    go_enter Try.func16, Try.ntmps16
    go_wp2
    go_ret2
    refine ⟨?_, Below.refl _ _⟩
    rw [hr]; rfl
  · have hp := per_pos s (by omega)
    have hp2 := per_le s
    have hne : s.toList.isEmpty = false := by
      rw [ByteArray.toList_eq]
      simp; intro h; apply h0; rcases s with ⟨⟨l⟩⟩; simpa [ByteArray.size] using h
    have hp3 : (0 : Int) < (per s : Nat) := by omega
    have hp4 : ((per s : Nat) : Int) ≤ s.size := by omega
    by_cases hd : s.size % per s = 0
    · have HR := Lib.hid (show rl s = per s by unfold rl; rw [if_pos hd])
      have hd' : ((s.size : Int) % (per s : Nat) != 0) = false := by
        have : ((s.size % per s : Nat) : Int) = 0 := by rw [hd]; rfl
        rw [Int.natCast_emod] at this
        rw [this]; rfl
      clear hd
      go_enter Try.func16, Try.ntmps16
      go_wp2_with (go_at_call 14; refine (Period_any _ _ hs).mono ?_; rintro e w' ⟨rfl, hb⟩)
      go_quiet (fail)
      go_wp2
      go_ret2
      refine ⟨?_, below_drewN hb _⟩
      rw [HR.out, ← wrap_div (by omega)]; rfl
    · have HR := Lib.hid (show rl s = s.size by unfold rl; rw [if_neg hd])
      have hd' : ((s.size : Int) % (per s : Nat) != 0) = true := by
        rw [bne_iff_ne]; intro h
        rw [← Int.natCast_emod] at h; exact hd (by omega)
      clear hd
      go_enter Try.func16, Try.ntmps16
      go_wp2_with (go_at_call 14; refine (Period_any _ _ hs).mono ?_; rintro e w' ⟨rfl, hb⟩)
      go_ret2
      refine ⟨?_, hb⟩
      have h1 : s.extract 0 s.size = s := by rw [ByteArray.ext_iff]; simp
      rw [HR.out, h1, Nat.div_self (by omega)]; rfl

end Go.Proofs.Gv

namespace Go.Proofs.Gv
open Go Go.RowKit

theorem next_011 (w : World) : Calls Try.prog 35 #[.int .i64 2, .string ⟨#[48, 49, 49]⟩] w fun e w' => e = .returned (.tuple #[.string ⟨#[49, 48, 48]⟩, .int .i64 0]) ∧ Below w.heap.size w w' := by
  have h := Next_any 2 ⟨#[48, 49, 49]⟩ w (by decide)
  have e : nextS 2 ⟨#[48, 49, 49]⟩ = (⟨#[49, 48, 48]⟩, 0) := by decide +kernel
  unfold RetNext at h
  rwa [e] at h
theorem next_111 (w : World) : Calls Try.prog 35 #[.int .i64 2, .string ⟨#[49, 49, 49]⟩] w fun e w' => e = .returned (.tuple #[.string ⟨#[48, 48, 48, 48]⟩, .int .i64 0]) ∧ Below w.heap.size w w' := by
  have h := Next_any 2 ⟨#[49, 49, 49]⟩ w (by decide)
  have e : nextS 2 ⟨#[49, 49, 49]⟩ = (⟨#[48, 48, 48, 48]⟩, 0) := by decide +kernel
  unfold RetNext at h
  rwa [e] at h
theorem rank_101 (w : World) : Calls Try.prog 40 #[.int .i64 2, .string ⟨#[49, 48, 49]⟩] w fun e w' => e = .returned (.tuple #[.agg #[.bool (sgn 5), .string (mg 5)], .int .i64 0]) ∧ Below w.heap.size w w' := by
  have h := Rank_any 2 ⟨#[49, 48, 49]⟩ w (by decide)
  have e : chk 2 ⟨#[49, 48, 49]⟩ = 0 := by decide +kernel
  have e2 : rk (2 : Int).toNat ⟨#[49, 48, 49]⟩ (⟨#[49, 48, 49]⟩ : ByteArray).size = 5 := by decide +kernel
  unfold RetRank at h
  rw [e, if_pos rfl, e2] at h
  exact h

theorem mb_01010 : mb (at' ⟨#[48, 49, 48, 49, 48]⟩) 5 = 3 := by
  refine mb_eq ⟨⟨by decide, ?_⟩, ?_⟩
  · decide +kernel
  · intro k hk
    have h1 := hk.1
    rcases Nat.lt_or_ge 3 k with h | h
    · have : k = 4 := by omega
      subst this
      have := hk.2 0 (by decide)
      revert this; decide +kernel
    · exact h
theorem mb_010101 : mb (at' ⟨#[48, 49, 48, 49, 48, 49]⟩) 6 = 4 := by
  refine mb_eq ⟨⟨by decide, ?_⟩, ?_⟩
  · decide +kernel
  · intro k hk
    have h1 := hk.1
    rcases Nat.lt_or_ge 4 k with h | h
    · have : k = 5 := by omega
      subst this
      have := hk.2 0 (by decide)
      revert this; decide +kernel
    · exact h
theorem border_ex (w : World) : Calls Try.prog 13 #[.string ⟨#[48, 49, 48, 49, 48]⟩] w fun e w' => e = .returned (.int .i64 3) ∧ Below w.heap.size w w' := by
  have h := Border_any ⟨#[48, 49, 48, 49, 48]⟩ w (by decide)
  rwa [show (⟨#[48, 49, 48, 49, 48]⟩ : ByteArray).size = 5 from rfl, mb_01010] at h
theorem period_ex (w : World) : Calls Try.prog 14 #[.string ⟨#[48, 49, 48, 49, 48]⟩] w fun e w' => e = .returned (.int .i64 2) ∧ Below w.heap.size w w' := by
  have h := Period_any ⟨#[48, 49, 48, 49, 48]⟩ w (by decide)
  have e : per ⟨#[48, 49, 48, 49, 48]⟩ = 2 := by
    unfold per; rw [show (⟨#[48, 49, 48, 49, 48]⟩ : ByteArray).size = 5 from rfl, mb_01010]
  rwa [e] at h
theorem root_ex (w : World) : Calls Try.prog 16 #[.string ⟨#[48, 49, 48, 49, 48, 49]⟩] w fun e w' => e = .returned (.tuple #[.string ⟨#[48, 49]⟩, .int .i64 3]) ∧ Below w.heap.size w w' := by
  have h := Root_any ⟨#[48, 49, 48, 49, 48, 49]⟩ w (by decide)
  have e : per ⟨#[48, 49, 48, 49, 48, 49]⟩ = 2 := by
    unfold per; rw [show (⟨#[48, 49, 48, 49, 48, 49]⟩ : ByteArray).size = 6 from rfl, mb_010101]
  have e2 : rl ⟨#[48, 49, 48, 49, 48, 49]⟩ = 2 := by
    unfold rl; rw [e, show (⟨#[48, 49, 48, 49, 48, 49]⟩ : ByteArray).size = 6 from rfl]; rfl
  unfold RetRoot at h
  rw [e2] at h
  exact h

/-- A slice of numbers, in memory of the call's own or nil. -/
structure IntsAt (W : World) (B : Nat) (v : Value) (l : List Nat) : Prop where
  form : ∃ a c, v = .slice a l.length c
  at0 : l = [] ∨ ∃ g c, v = .slice (some ⟨g, 0, none⟩) l.length c ∧ B ≤ g ∧ g < W.heap.size ∧ l.length ≤ c ∧ (∀ j, j < l.length → W.cell? ⟨g, j, none⟩ = some (.int .i64 (l.getD j 0 : Nat))) ∧ (∀ j, j < l.length → W.frozen? ⟨g, j, none⟩ = false)
theorem IntsAt.of_row {W : World} {B : Nat} {v : Value} {l : List Nat} (h : W.ownsRow B 3 1 v l.length (intV l)) : IntsAt W B v l := by
  rcases h.2 with ⟨rfl, hn⟩ | ⟨g, cap, cur, rfl, hB, hg, hn, hm, hs, ht⟩
  · have : l = [] := List.eq_nil_of_length_eq_zero hn
    subst this
    exact ⟨⟨none, 0, rfl⟩, .inl rfl⟩
  · refine ⟨⟨_, _, rfl⟩, .inr ⟨g, cap, rfl, hB, (Array.getElem?_eq_some_iff.1 hg).1, hn, fun j hj => ?_, fun j hj => by simp [World.frozen?, hg]⟩⟩
    have h1 : cur[j]? = some (.int .i64 (l.getD j 0 : Nat)) := by
      have h2 : (cur.toList.take (l.length * 1))[j]? = some (.int .i64 (l.getD j 0 : Nat)) := by
        rw [ht]; unfold intV; simp [hj]
      rw [List.getElem?_take, if_pos (by omega)] at h2
      simpa using h2
    simp [World.cell?, hg, h1]

theorem find_ex (m : Int) (w : World) (hm : w.cell? ⟨0, 0, none⟩ = some (.int .i64 m)) (h₀ : 0 < w.heap.size) :
    Calls Try.prog 19 #[.string ⟨#[48, 49, 48, 49, 48]⟩, .string ⟨#[48, 49, 48]⟩] w fun e w' => ∃ g c, e = .returned (.slice (some ⟨g, 0, none⟩) 2 c) ∧ g < w'.heap.size ∧ w'.cell? ⟨g, 0, none⟩ = some (.int .i64 0) ∧ w'.cell? ⟨g, 1, none⟩ = some (.int .i64 2) ∧ Below w.heap.size w w' :=
  (Find_any ⟨#[48, 49, 48, 49, 48]⟩ ⟨#[48, 49, 48]⟩ m (by decide) (by decide) w hm h₀).mono fun e w' h => by
    have e1 : occL (⟨#[48, 49, 48, 49, 48]⟩ : ByteArray).data.toList (⟨#[48, 49, 48]⟩ : ByteArray).data.toList ((⟨#[48, 49, 48, 49, 48]⟩ : ByteArray).size + 1) = [0, 2] := by decide +kernel
    rw [e1] at h
    obtain ⟨v, rfl, hr, hb⟩ := h
    rcases (IntsAt.of_row (l := [0, 2]) hr).at0 with h | ⟨g, c, rfl, h1, h2, h3, h4, h5⟩
    · cases h
    · exact ⟨g, c, rfl, h2, h4 0 (by decide), h4 1 (by decide), hb⟩

theorem equal_ex (b1 c1 b2 c2 : Nat) (w : World) (h1 : w.cell? ⟨b1, 0, none⟩ = some (.int .i64 0)) (h2 : w.cell? ⟨b1, 1, none⟩ = some (.int .i64 2)) (h3 : w.cell? ⟨b2, 0, none⟩ = some (.int .i64 0)) (h4 : w.cell? ⟨b2, 1, none⟩ = some (.int .i64 2)) :
    Calls Try.prog 18 #[.slice (some ⟨b1, 0, none⟩) 2 c1, .slice (some ⟨b2, 0, none⟩) 2 c2] w fun e w' => e = .returned (.bool true) ∧ ∃ q, w' = w.drewN q :=
  Try.slices_Equal_int b1 0 2 c1 b2 0 2 c2 [0, 2] [0, 2] w (by decide) (by decide) (by decide) (by decide)
    (fun j hj => by match j, hj with
      | 0, _ => exact h1
      | 1, _ => exact h2)
    (fun j hj => by match j, hj with
      | 0, _ => exact h3
      | 1, _ => exact h4)
end Go.Proofs.Gv
