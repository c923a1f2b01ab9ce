/- word.Find, Period, Root, Reverse: what they compute. -/
import Derived.Test.YtlaakomeofldgaaFind
import Derived.Shelf.SlicesE.Reverse
namespace Go.Proofs.Gv
open Go Go.RowKit Go.Shelf

theorem Find_any (s u : ByteArray) (m : Int) (hs : s.size ≤ 1000000) (hu : u.size ≤ 1000000) (w : World) (hm : w.cell? ⟨0, 0, none⟩ = some (.int .i64 m)) (h₀ : 0 < w.heap.size) :
    Calls Try.prog 19 #[.string s, .string u] w fun e W' => ∃ v, e = .returned v ∧ W'.ownsRow w.heap.size 3 1 v (occL s.data.toList u.data.toList (s.size + 1)).length (intV (occL s.data.toList u.data.toList (s.size + 1))) ∧ Below w.heap.size w W' :=
  callsIn_wide.1 (Find_in 3 (by omega) s u m hs hu w hm h₀)

/-- The period. -/
noncomputable def per (s : ByteArray) : Nat := s.size - mb (at' s) s.size
theorem mb_le (s : ByteArray) : mb (at' s) s.size ≤ s.size := by
  rcases Nat.eq_zero_or_pos s.size with h | h
  · rw [h, mb_zero]; omega
  · exact Nat.le_of_lt (mb_lt _ h)
theorem per_pos (s : ByteArray) (h : 0 < s.size) : 0 < per s := by
  have := mb_lt (at' s) h
  unfold per; omega
theorem per_le (s : ByteArray) : per s ≤ s.size := by unfold per; omega

set_option maxHeartbeats 800000 in
theorem Period_any (s : ByteArray) (w : World) (hs : s.size ≤ 100000) :
    Calls Try.prog 14 #[.string s] w fun e w' => e = .returned (.int .i64 (per s : Nat)) ∧ Below w.heap.size w w' := by
  have h1 := mb_le s
  have h2 : ((per s : Nat) : Int) = (s.size : Int) - (mb (at' s) s.size : Nat) := by unfold per; omega
  have H := Lib.hid h2
  clear h2
  go_enter Try.func14, Try.ntmps14
  go_wp2_with (go_at_call 13; refine (Border_any _ _ hs).mono ?_; rintro e w' ⟨rfl, hb⟩)
  go_ret
  refine ⟨?_, hb⟩
  rw [H.out]; rfl

/-- The number of letters of the root. -/
noncomputable def rl (s : ByteArray) : Nat := if s.size % per s = 0 then per s else s.size
theorem rl_le (s : ByteArray) : rl s ≤ s.size := by unfold rl; have := per_le s; split <;> omega
theorem rl_pos (s : ByteArray) (h : 0 < s.size) : 0 < rl s := by unfold rl; have := per_pos s h; split <;> omega

/-- The root comes back, and the number of its copies. -/
def RetRoot (s : ByteArray) (w : World) (e : Ending) (w' : World) : Prop := e = .returned (.tuple #[.string (s.extract 0 (rl s)), .int .i64 (s.size / rl s : Nat)]) ∧ Below w.heap.size w w'

theorem wrap_div {a b : Nat} (h : a ≤ 1000000) : wrap64 ((a : Int) / (b : Nat)) = ((a / b : Nat) : Int) := by
  have := Nat.div_le_self a b
  rw [← Int.natCast_ediv]
  generalize a / b = d at *
  unfold wrap64
  omega

set_option maxHeartbeats 800000 in
theorem Root_any (s : ByteArray) (w : World) (hs : s.size ≤ 100000) :
    Calls Try.prog 16 #[.string s] w (RetRoot s w) := by
  by_cases h0 : s.size = 0
  · obtain rfl : s = ⟨#[]⟩ := by rcases s with ⟨⟨l⟩⟩; have : l = [] := by simpa [ByteArray.size] using h0
                                 subst this; rfl
    have hr : rl ⟨#[]⟩ = 0 := Nat.le_zero.mp (rl_le ⟨#[]⟩)
    go_enter Try.func16, Try.ntmps16
    go_wp2
    go_ret2
    refine ⟨?_, Below.refl _ _⟩
    rw [hr]; rfl
  · have hp := per_pos s (by omega)
    have hp2 := per_le s
    have hne : s.toList.isEmpty = false := by
      rw [ByteArray.toList_eq]
      simp; intro h; apply h0; rcases s with ⟨⟨l⟩⟩; simpa [ByteArray.size] using h
    have hp3 : (0 : Int) < (per s : Nat) := by omega
    have hp4 : ((per s : Nat) : Int) ≤ s.size := by omega
    by_cases hd : s.size % per s = 0
    · have HR := Lib.hid (show rl s = per s by unfold rl; rw [if_pos hd])
      have hd' : ((s.size : Int) % (per s : Nat) != 0) = false := by
        have : ((s.size % per s : Nat) : Int) = 0 := by rw [hd]; rfl
        rw [Int.natCast_emod] at this
        rw [this]; rfl
      clear hd
      go_enter Try.func16, Try.ntmps16
      go_wp2_with (go_at_call 14; refine (Period_any _ _ hs).mono ?_; rintro e w' ⟨rfl, hb⟩)
      go_quiet (fail)
      go_wp2
      go_ret2
      refine ⟨?_, below_drewN hb _⟩
      rw [HR.out, ← wrap_div (by omega)]; rfl
    · have HR := Lib.hid (show rl s = s.size by unfold rl; rw [if_neg hd])
      have hd' : ((s.size : Int) % (per s : Nat) != 0) = true := by
        rw [bne_iff_ne]; intro h
        rw [← Int.natCast_emod] at h; exact hd (by omega)
      clear hd
      go_enter Try.func16, Try.ntmps16
      go_wp2_with (go_at_call 14; refine (Period_any _ _ hs).mono ?_; rintro e w' ⟨rfl, hb⟩)
      go_ret2
      refine ⟨?_, hb⟩
      have h1 : s.extract 0 s.size = s := by rw [ByteArray.ext_iff]; simp
      rw [HR.out, h1, Nat.div_self (by omega)]; rfl

/-- The letters of a word as cells. -/
def u8V (c : UInt8) : Value := .int .u8 c.toNat

def Try.revRen : Ren := ⟨fun | 35 => 50 | n => n, fun | 0 => 0 | 3 => 3 | 4 => 4 | 22 => 63 | 23 => 5 | n => n, fun | n => n⟩
theorem Try.revL : SlLaysE.n35 Try.prog Try.revRen := {
  mixed := by kernel_rfl
  f35 := ⟨"slices.Reverse[[]byte,byte]", by decide, Try.func50.trans (congrArg some (by kernel_rfl))⟩
  t0 := Try.underlying0
  a0 := Try.isAgg0
  z0 := Try.sizeOf0
  v0 := Try.zeroValue0
  t3 := Try.underlying3
  a3 := Try.isAgg3
  z3 := Try.sizeOf3
  v3 := Try.zeroValue3
  t4 := Try.underlying4
  a4 := Try.isAgg4
  z4 := Try.sizeOf4
  v4 := Try.zeroValue4
  t22 := Try.underlying63
  a22 := Try.isAgg63
  z22 := Try.sizeOf63
  v22 := Try.zeroValue63
  a23 := Try.isAgg5
  z23 := Try.sizeOf5 }

theorem putRow_below {w W : World} {g : Nat} {d d' : Array UInt8} (h : Below w.heap.size w W) (hg : w.heap.size ≤ g) (hH : Sort.Holds u8V W g 0 d) (hs : d'.size = d.size) : Below w.heap.size w (Sort.putRow u8V W g 0 d') := by
  refine ⟨h.os, h.tape, h.output, by simpa using h.size, fun k hk => ?_⟩
  rw [← h.block k hk]
  simp [Sort.putRow, Sort.mapBlock, Array.getElem?_modify]
  intro e; omega
theorem getD_rev (s : ByteArray) (j : Nat) (hj : j < s.size) : s.data.reverse[j]! = s.data.toList.reverse.getD j 0 := by
  have h : j < s.data.size := hj
  rw [getElem!_pos _ j (by simpa using h)]
  rw [List.getD_eq_getElem?_getD, List.getElem?_eq_getElem (by simpa using h)]
  simp

set_option maxRecDepth 100000 in
set_option maxHeartbeats 800000 in
theorem Reverse_any (s : ByteArray) (w : World) (hs : s.size ≤ 100000) :
    Calls Try.prog 23 #[.string s] w fun e w' => e = .returned (.string ⟨s.data.toList.reverse.toArray⟩) ∧ Below w.heap.size w w' := by
  have hcv := conv_to w s
  have hrow := byW_row w s
  have hb := byW_below w s
  obtain ⟨W0, hW0⟩ : ∃ W0, byW w s = W0 := ⟨_, rfl⟩
  rw [hW0] at hcv hrow hb
  clear hW0
  have hH : Sort.Holds u8V W0 w.heap.size 0 s.data := fun j hj => by
    have hj' : j < s.size := hj
    refine ⟨?_, by rw [Nat.zero_add]; exact hrow.fz j hj'⟩
    rw [Nat.zero_add, hrow.cell j hj', ← at'_eq hj']
    unfold u8V
    rw [getElem!_pos _ j hj]
    rfl
  have HR := Lib.hid (AnyE.slices_Reverse_arr Try.revL u8V (fun x => by rfl) w.heap.size 0 (byC w s) s.data W0 hH (by have : s.data.size = s.size := rfl; omega))
  have HH := Lib.hid hH
  have HB := Lib.hid hb
  have HW := Lib.hid hrow
  clear hH hb hrow
  go_enter Try.func23, Try.ntmps23
  go_wp2_with fail
  refine (HR.out).mono ?_
  rintro e w' ⟨rfl, nn, rfl⟩
  clear hcv
  have hrow2 : BRow (Sort.putRow u8V (Sort.ahead W0 nn) w.heap.size 0 s.data.reverse) w.heap.size s.size (fun j => s.data.toList.reverse.getD j 0) := by
    have h2 := Sort.holds_putRow u8V (Sort.ahead W0 nn) w.heap.size 0 s.data s.data.reverse (Sort.holds_ahead _ _ _ _ _ _ HH.out) (by simp)
    refine ⟨by rw [Sort.size_putRow]; exact HW.out.lt, fun j hj => ?_, fun j hj => ?_⟩
    · have := (h2 j (by simpa using hj)).1
      rw [Nat.zero_add, getD_rev s j hj] at this
      exact this
    · have := (h2 j (by simpa using hj)).2
      rwa [Nat.zero_add] at this
  have hcb := conv_back _ w.heap.size (byC w s) s.size _ hrow2
  have hl : (List.range s.size).map (fun j => s.data.toList.reverse.getD j 0) = s.data.toList.reverse := by
    apply List.ext_getElem
    · rw [List.length_map, List.length_range, List.length_reverse, Array.length_toList]; rfl
    · intro i h1 h2
      rw [List.getElem_map, List.getElem_range, List.getD_eq_getElem?_getD, List.getElem?_eq_getElem h2]
      rfl
  rw [hl] at hcb
  clear hl
  have hB2 : Below w.heap.size w (Sort.putRow u8V (Sort.ahead W0 nn) w.heap.size 0 s.data.reverse) :=
    putRow_below (d := s.data) (W := Sort.ahead W0 nn) ⟨HB.out.os, HB.out.tape, HB.out.output, HB.out.size, HB.out.block⟩ (Nat.le_refl _) (Sort.holds_ahead _ _ _ _ _ _ HH.out) (by simp)
  obtain ⟨W2, hW2⟩ : ∃ W2, Sort.putRow u8V (Sort.ahead W0 nn) w.heap.size 0 s.data.reverse = W2 := ⟨_, rfl⟩
  rw [hW2] at hcb hB2 ⊢
  clear hW2 hrow2
  go_wp2
  go_ret
  refine ⟨?_, hB2⟩
  rfl
end Go.Proofs.Gv
