/- The law WordBorders, walked. -/
import Derived.Test.YtlaakomeofldgaaAwk07
namespace Go.Proofs.Gv
open Go Go.RowKit

theorem len_data (s : ByteArray) : s.data.toList.length = s.size := Array.length_toList
theorem at'_list (s : ByteArray) (i : Nat) : at' s i = s.data.toList.getD i 0 := rfl
theorem ext_take (s : ByteArray) (n : Nat) : (s.extract 0 n).data.toList = s.data.toList.take n := by
  rw [ByteArray.data_extract, Array.toList_extract, List.extract_eq_take_drop]; simp only [List.drop_zero, Nat.sub_zero]
theorem ext_drop (s : ByteArray) (n : Nat) : (s.extract n s.size).data.toList = s.data.toList.drop n := by
  rw [ByteArray.data_extract, Array.toList_extract, List.extract_eq_take_drop, List.take_of_length_le]
  rw [List.length_drop, Array.length_toList]; exact Nat.le_refl _
/-- Take n of one is drop of the other: letter by letter. -/
theorem take_drop_iff (l : List UInt8) (n d : Nat) (h : n + d = l.length) : l.take n = l.drop d ↔ ∀ j, j < n → l.getD j 0 = l.getD (d + j) 0 := by
  constructor
  · intro e j hj
    have h1 : (l.take n)[j]? = (l.drop d)[j]? := by rw [e]
    rw [List.getElem?_take, if_pos hj, List.getElem?_drop] at h1
    rw [List.getD_eq_getElem?_getD, List.getD_eq_getElem?_getD, h1]
  · intro e
    apply List.ext_getElem
    · simp; omega
    · intro i h1 h2
      simp at h1 h2
      have := e i (by omega)
      rw [List.getD_eq_getElem?_getD, List.getElem?_eq_getElem (by omega), List.getD_eq_getElem?_getD, List.getElem?_eq_getElem (by omega)] at this
      simpa using this
theorem suffix_iff (s : ByteArray) (n : Nat) (h : n < s.size) : Lib.hasSuffix s.data.toList (s.extract 0 n).data.toList = true ↔ Bd (at' s) s.size n := by
  have hl := len_data s
  rw [ext_take]
  unfold Lib.hasSuffix
  rw [List.isSuffixOf_iff_suffix]
  have hlen : (s.data.toList.take n).length = n := by simp; omega
  rw [List.suffix_iff_eq_drop, hlen, hl, take_drop_iff _ n (s.size - n) (by omega)]
  constructor
  · intro e; exact ⟨h, fun j hj => e j hj⟩
  · intro e j hj; exact e.2 j hj
theorem same_iff (s : ByteArray) (n : Nat) (h1 : 1 ≤ n) (h : n ≤ s.size) : ((s.extract n s.size).toList == (s.extract 0 (s.size - n)).toList) = true ↔ Bd (at' s) s.size (s.size - n) := by
  have hl := len_data s
  rw [beq_iff_eq, ByteArray.toList_eq, ByteArray.toList_eq, ext_drop, ext_take, eq_comm, take_drop_iff _ (s.size - n) n (by omega)]
  constructor
  · intro e; exact ⟨by omega, fun j hj => by rw [show s.size - (s.size - n) = n by omega]; exact e j hj⟩
  · intro e j hj
    have := e.2 j hj
    rwa [show s.size - (s.size - n) = n by omega] at this

set_option maxRecDepth 100000 in
set_option maxHeartbeats 1600000 in
theorem law_borders (s : ByteArray) (m : Int) (w : World) (hs : s.size ≤ maxLen) (hm : w.cell? ⟨0, 0, none⟩ = some (.int .i64 m)) (h₀ : 0 < w.heap.size) :
    Calls Try.prog 3 #[.string s] w fun e w' => e = .returned (.bool true) ∧ Below w.heap.size w w' := by
  unfold maxLen at hs
  have HM := Lib.hid hm
  clear hm
  by_cases h40 : 40 < s.size
  · go_enter Try.func3, Try.ntmps3
    go_wp2_with (go_at_call 12; refine (awake07 m _ HM.out h₀).mono ?_; rintro e w' ⟨rfl, hb⟩)
    go_ret
    exact ⟨rfl, hb⟩
  · have hb1 := mb_le s
    have hp1 : ((per s : Nat) : Int) = (s.size : Int) - (mb (at' s) s.size : Nat) := by unfold per; omega
    have HM1 := Lib.hid (fun (h : 0 < s.size) => mb_MB (at' s) h)
    have hb2 : 0 < s.size → mb (at' s) s.size < s.size := fun h => mb_lt _ h
    obtain ⟨b, hb⟩ : ∃ b, mb (at' s) s.size = b := ⟨_, rfl⟩
    obtain ⟨p, hp⟩ : ∃ p, per s = p := ⟨_, rfl⟩
    have HBo := Lib.hid (fun W => hb ▸ Border_any s W (by omega) : ∀ W, Calls Try.prog 13 #[.string s] W fun e w' => e = .returned (.int .i64 (b : Nat)) ∧ Below W.heap.size W w')
    have HPe := Lib.hid (fun W => hp ▸ Period_any s W (by omega) : ∀ W, Calls Try.prog 14 #[.string s] W fun e w' => e = .returned (.int .i64 (p : Nat)) ∧ Below W.heap.size W w')
    rw [hb, hp] at hp1
    rw [hb] at hb1 hb2 HM1
    have t1 : ((p : Int) != (s.size : Int) - b) = false := by rw [hp1]; simp
    have t4 : decide (s.size < b) = false := by simp; omega
    have t5 : decide ((b : Int) < 0) = false := by simp
    have HP := Lib.hid hp1
    clear hb hp hp1
    have key : ∀ (t2 : ((0 : Int) < s.size ∧ ((b : Int) == s.size) = false) ∨ ¬ (0 : Int) < s.size), Calls Try.prog 3 #[.string s] w fun e w' => e = .returned (.bool true) ∧ Below w.heap.size w w' := by
      rintro (⟨t2, t3⟩ | t2)
      all_goals
        go_enter Try.func3, Try.ntmps3
        go_wp2_with (first | (go_at_call 13; refine (HBo.out _).mono ?_; rintro e w1 ⟨rfl, hb1⟩) | (go_at_call 14; refine (HPe.out _).mono ?_; rintro e w2 ⟨rfl, hb2⟩))
        have HB2 := Lib.hid (hb1.trans (hb2.mono hb1.size))
        clear hb1 hb2
        go_loopg [5] (s.size + 1) (fun g i wr => ∃ k : Nat, 1 ≤ k ∧ i = .int .i64 k ∧ s.size + 1 - k ≤ g ∧ wr = w2)
        case atStart => exact ⟨1, Nat.le_refl _, rfl, by omega, rfl⟩
        case round =>
          obtain ⟨k, hk1, rfl, hk, rfl⟩ := hrel
          by_cases hlt : k < s.size
          · by_cases hsf : Lib.hasSuffix s.data.toList (s.extract 0 k).data.toList = true
            · have HC := Lib.hid (fun W => (Try.strings_HasSuffix s (s.extract 0 k) W (by omega)).mono (fun e w' h => ⟨by rw [h.1, hsf], h.2.symm⟩) : ∀ W, Calls Try.prog 15 #[.string s, .string (s.extract 0 k)] W fun e w' => e = .returned (.bool true) ∧ W = w')
              have g1 := (HM1.out (by omega)).2 k ((suffix_iff s k hlt).mp hsf)
              clear hsf
              go_wp2_with (go_at_call 15; refine (HC.out _).mono ?_; rintro e w' ⟨rfl, rfl⟩)
              all_goals (
                go_roundg (s.size - k)
                case rel => exact ⟨k + 1, by omega, by go_num, by omega, rfl⟩
                case measure => omega)
            · have HC := Lib.hid (fun W => (Try.strings_HasSuffix s (s.extract 0 k) W (by omega)).mono (fun e w' h => ⟨by rw [h.1, Bool.eq_false_iff.mpr hsf], h.2.symm⟩) : ∀ W, Calls Try.prog 15 #[.string s, .string (s.extract 0 k)] W fun e w' => e = .returned (.bool false) ∧ W = w')
              have g1 : ((k : Int) == b) = false := by
                rw [beq_eq_false_iff_ne]
                intro e
                obtain rfl : k = b := by omega
                exact hsf ((suffix_iff s k hlt).mpr (HM1.out (by omega)).1)
              clear hsf
              go_wp2_with (go_at_call 15; refine (HC.out _).mono ?_; rintro e w' ⟨rfl, rfl⟩)
              all_goals (
                go_roundg (s.size - k)
                case rel => exact ⟨k + 1, by omega, by go_num, by omega, rfl⟩
                case measure => omega)
          · go_wp2
            go_loopg [7] (s.size + 1) (fun g i wr => ∃ k : Nat, 1 ≤ k ∧ i = .int .i64 k ∧ s.size + 1 - k ≤ g ∧ Below w.heap.size w wr)
            case atStart => exact ⟨1, Nat.le_refl _, rfl, by omega, HB2.out⟩
            case round =>
              obtain ⟨n, hn1, rfl, hn, hbr⟩ := hrel
              have HBR := Lib.hid hbr
              clear hbr
              by_cases hle : n ≤ s.size
              · by_cases hsm : ((s.extract n s.size).toList == (s.extract 0 (s.size - n)).toList) = true
                · have g1 := (HM1.out (by omega)).2 _ ((same_iff s n hn1 hle).mp hsm)
                  have g2 : (p : Int) ≤ n := by rw [HP.out]; omega
                  clear g1
                  go_wp2
                  all_goals go_quiet (fail)
                  all_goals go_wp2
                  all_goals (
                    go_roundg (s.size - n)
                    case rel => exact ⟨n + 1, by omega, by go_num, by omega, below_drewN HBR.out _⟩
                    case measure => omega)
                · have hsm' : ((s.extract n s.size).toList == (s.extract 0 (s.size - n)).toList) = false := Bool.eq_false_iff.mpr hsm
                  have g2 : ((n : Int) == p) = false := by
                    rw [beq_eq_false_iff_ne]
                    intro e
                    have e2 : s.size - n = b := by have := HP.out; omega
                    exact hsm ((same_iff s n hn1 hle).mpr (e2 ▸ (HM1.out (by omega)).1))
                  clear hsm
                  go_wp2
                  all_goals go_quiet (fail)
                  all_goals go_wp2
                  all_goals (
                    go_roundg (s.size - n)
                    case rel => exact ⟨n + 1, by omega, by go_num, by omega, below_drewN HBR.out _⟩
                    case measure => omega)
              · go_wp2_with (go_at_call 12; refine (awake07 m _ ((HBR.out.cell (p := ⟨0, 0, none⟩) h₀).trans HM.out) (Nat.lt_of_lt_of_le h₀ HBR.out.size)).mono ?_; rintro e w' ⟨rfl, hb⟩)
                go_ret
                exact ⟨rfl, bstep HBR.out hb⟩
    refine key ?_
    by_cases hz : 0 < s.size
    · refine .inl ⟨by omega, ?_⟩
      rw [beq_eq_false_iff_ne]
      have := hb2 hz
      omega
    · exact .inr (by omega)
end Go.Proofs.Gv
