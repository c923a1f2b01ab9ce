/- The law WordFound, walked. -/
import Derived.Test.YtlaakomeofldgaaInts
namespace Go.Proofs.Gv
open Go Go.RowKit

theorem occL_asc (s u : List UInt8) (n : Nat) : Asc (occL s u n) := by
  have h : (occL s u n).Pairwise (· < ·) := List.Pairwise.filter _ List.pairwise_lt_range
  intro j hj
  rw [List.getD_eq_getElem?_getD, List.getElem?_eq_getElem (by omega), List.getD_eq_getElem?_getD, List.getElem?_eq_getElem hj]
  exact List.pairwise_iff_getElem.mp h j (j + 1) (by omega) hj (by omega)
theorem occL_room (s u : List UInt8) : (occL s u (s.length + 1)).length ≤ s.length + 1 - u.length := by
  have h : occL s u (s.length + 1) = occL s u (s.length + 1 - u.length) := by
    rw [show s.length + 1 = (s.length + 1 - u.length) + min u.length (s.length + 1) by omega]
    rw [show (s.length + 1 - u.length) + min u.length (s.length + 1) - u.length = s.length + 1 - u.length by omega]
    refine occL_skip _ fun j h1 h2 => ?_
    rw [Bool.eq_false_iff]
    intro hj
    have := occAt_room hj (by omega)
    omega
  rw [h]
  exact occL_length _ _ _
theorem occ_last (s u : ByteArray) : ((occL (s ++ u).data.toList u.data.toList ((s ++ u).size + 1)).contains s.size) = true := by
  rw [List.contains_iff_mem, mem_occL]
  refine ⟨by rw [ByteArray.size_append]; omega, ?_⟩
  unfold Lib.occAt
  rw [ByteArray.data_append, Array.toList_append, List.drop_left' (len_data s)]
  exact List.isPrefixOf_iff_prefix.mpr (List.prefix_refl _)
theorem has_eq (s u : ByteArray) (i : Nat) (h : i ≤ s.size) : Lib.hasPrefix (s.extract i s.size).data.toList u.data.toList = (occL s.data.toList u.data.toList (s.size + 1)).contains i := by
  rw [ext_drop]
  rw [Bool.eq_iff_iff, List.contains_iff_mem, mem_occL]
  unfold Lib.hasPrefix Lib.occAt
  constructor
  · intro h2; exact ⟨by omega, h2⟩
  · intro h2; exact h2.2

set_option maxRecDepth 100000 in
set_option maxHeartbeats 1600000 in
theorem law_found (s u : ByteArray) (m : Int) (w : World) (hs : s.size ≤ maxLen) (hu : u.size ≤ maxLen) (hm : w.cell? ⟨0, 0, none⟩ = some (.int .i64 m)) (h₀ : 0 < w.heap.size) :
    Calls Try.prog 6 #[.string s, .string u] w fun e w' => e = .returned (.bool true) ∧ Below w.heap.size w w' := by
  unfold maxLen at hs hu
  have HM := Lib.hid hm
  clear hm
  by_cases h1 : 40 < s.size
  · go_enter Try.func6, Try.ntmps6
    go_wp2_with (go_at_call 12; refine (awake07 m _ HM.out h₀).mono ?_; rintro e w' ⟨rfl, hb⟩)
    go_ret
    exact ⟨rfl, hb⟩
  · by_cases h2 : 40 < u.size
    · go_enter Try.func6, Try.ntmps6
      go_wp2_with (go_at_call 12; refine (awake07 m _ HM.out h₀).mono ?_; rintro e w' ⟨rfl, hb⟩)
      go_ret
      exact ⟨rfl, hb⟩
    · have hol := occL_length s.data.toList u.data.toList (s.size + 1)
      have hor := occL_room s.data.toList u.data.toList
      rw [len_data, len_data] at hor
      have hol2 := occL_length (s ++ u).data.toList u.data.toList ((s ++ u).size + 1)
      have hsu : (s ++ u).size = s.size + u.size := ByteArray.size_append
      rw [hsu] at hol2
      have HSU := Lib.hid hsu
      have HA := Lib.hid (occL_asc s.data.toList u.data.toList (s.size + 1))
      have HE := Lib.hid (fun i h => has_eq s u i h : ∀ i, i ≤ s.size → Lib.hasPrefix (s.extract i s.size).data.toList u.data.toList = (occL s.data.toList u.data.toList (s.size + 1)).contains i)
      have HLast := Lib.hid (occ_last s u)
      rw [HSU.out] at HLast
      have HF := Lib.hid (fun W (h : W.cell? ⟨0, 0, none⟩ = some (.int .i64 m)) (h0 : 0 < W.heap.size) => Find_any s u m (by omega) (by omega) W h h0)
      have HF2 := Lib.hid (fun W (h : W.cell? ⟨0, 0, none⟩ = some (.int .i64 m)) (h0 : 0 < W.heap.size) => Find_any (s ++ u) u m (by omega) (by omega) W h h0)
      rw [HSU.out] at HF2
      obtain ⟨L, hL⟩ : ∃ L, occL s.data.toList u.data.toList (s.size + 1) = L := ⟨_, rfl⟩
      obtain ⟨M, hM⟩ : ∃ M, occL (s ++ u).data.toList u.data.toList (s.size + u.size + 1) = M := ⟨_, rfl⟩
      rw [hL] at hol hor HA HE HF
      rw [hM] at HLast HF2 hol2
      clear hL hM hsu
      go_enter Try.func6, Try.ntmps6
      go_wp2_with (go_at_call 19; refine (HF.out _ (by exact HM.out) (by exact h₀)).mono ?_; rintro e w1 ⟨v, rfl, r1, hb⟩; have HB1 := Lib.hid hb; have R1 := Lib.hid (IntsAt.of_row r1); clear hb r1)
      obtain ⟨va, vc, rfl⟩ := R1.out.form
      go_loopg [23] (s.size + 2) (fun g i wr => ∃ k : Nat, i = .int .i64 k ∧ k ≤ s.size + 1 ∧ s.size + 1 - k ≤ g ∧ Dr w1 wr)
      case atStart => exact ⟨0, rfl, by omega, by omega, Dr.refl _⟩
      case round =>
        obtain ⟨k, rfl, hk, hg, hd⟩ := hrel
        have HD := Lib.hid hd
        have R2 := Lib.hid (show IntsAt wr w.heap.size (.slice va L.length vc) L by obtain ⟨q, rfl⟩ := hd; exact R1.out.below (below_drewN (Below.refl _ _) _))
        have HB2 := Lib.hid (HB1.out.trans (hd.below (n := w.heap.size)))
        clear hd
        by_cases hlt : k < s.size + 1
        · obtain ⟨b, hb⟩ : ∃ b, L.contains k = b := ⟨_, rfl⟩
          have HC := Lib.hid (fun W (h : IntsAt W w.heap.size (.slice va L.length vc) L) => hb ▸ contains_ints h (by omega) k : ∀ W, IntsAt W w.heap.size (.slice va L.length vc) L → Calls Try.prog 25 #[.slice va L.length vc, .int .i64 k] W fun e w' => e = .returned (.bool b) ∧ w' = W)
          have HP := Lib.hid (fun W => (Try.strings_HasPrefix (s.extract k s.size) u W).mono (fun e w' h => ⟨by rw [h.1, HE.out k (by omega), hb], h.2⟩) : ∀ W, Calls Try.prog 26 #[.string (s.extract k s.size), .string u] W fun e w' => e = .returned (.bool b) ∧ w' = W)
          clear hb
          have i1 : (k : Int) ≤ s.size := by omega
          have i2 : (k : Int) < (s.size : Int) + 1 := by omega
          go_wp2
          go_quiet ((first | (go_at_call 25; exact Calls.quiet_of_same (HC.out _ (R2.out.below (below_drewN (Below.refl _ _) _)))) | (go_at_call 26; exact Calls.quiet_of_same (HP.out _))))
          go_wp2
          go_roundg (s.size - k)
          case rel => exact ⟨k + 1, by go_num, by omega, by omega, HD.out.more _⟩
          case measure => omega
        · obtain rfl : k = s.size + 1 := by omega
          have i2 : ¬ ((s.size + 1 : Nat) : Int) < (s.size : Int) + 1 := by omega
          clear HE hlt
          go_wp2_with (first
            | (go_at_call 19; refine (HF2.out _ ((HB2.out.cell (p := ⟨0, 0, none⟩) h₀).trans HM.out) (Nat.lt_of_lt_of_le h₀ HB2.out.size)).mono ?_; rintro e w3 ⟨v3, rfl, r3, hb⟩; have HB3 := Lib.hid (bstep HB2.out hb); have R3 := Lib.hid (IntsAt.of_row r3); have R4 := Lib.hid (R2.out.below hb); clear hb r3)
            | (go_at_call 27; refine (sorted_ints R4.out (by omega) HA.out).mono ?_; rintro e w4 ⟨rfl, hd⟩; have HB4 := Lib.hid (HB3.out.trans (hd.below (n := w.heap.size))); have R5 := Lib.hid (R4.out.below (hd.below (n := w3.heap.size))); have R6 := Lib.hid (R3.out.below (hd.below (n := w3.heap.size))); clear hd)
            | (go_at_call 29; refine (clone_ints R5.out (by omega)).mono ?_; rintro e w5 ⟨v5, rfl, r5, hb⟩; have HB5 := Lib.hid (bstep HB4.out hb); have R7 := Lib.hid r5; have R8 := Lib.hid (R6.out.below hb); have hz5 := hb.size; have H5 := Lib.hid hb; clear hb r5)
            | (go_at_call 28; refine (compact_ints R7.out (by omega) HA.out).mono ?_; rintro e w6 ⟨⟨a6, c6, rfl⟩, hb⟩; have HB6 := Lib.hid (HB5.out.trans (hb.mono HB4.out.size)); have H6 := Lib.hid hb; clear hb)
            | (go_at_call 25; refine (contains_ints (R6.out.below (H5.out.trans H6.out)) (by omega) s.size).mono ?_; rw [HLast.out]; rintro e w' ⟨rfl, rfl⟩)
            | (go_at_call 12; refine (awake07 m _ ((HB6.out.cell (p := ⟨0, 0, none⟩) h₀).trans HM.out) (Nat.lt_of_lt_of_le h₀ HB6.out.size)).mono ?_; rintro e w7 ⟨rfl, hb⟩; have HB7 := Lib.hid (bstep HB6.out hb); clear hb))
          go_ret
          exact ⟨rfl, HB7.out⟩
end Go.Proofs.Gv
