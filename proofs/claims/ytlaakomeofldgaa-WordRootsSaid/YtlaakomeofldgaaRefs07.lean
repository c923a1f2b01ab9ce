/- grooveref07: Border, Period, Find, Reverse. -/
import Derived.Test.YtlaakomeofldgaaLBorders
namespace Go.Proofs.Gv
open Go Go.RowKit

theorem below_append {n₀ : Nat} {a w w1 : World} {e : TypeId} {size k : Nat} {v : Value} {xs : List Value} {tmp : Obj} (h : Below n₀ a w) (hn : n₀ ≤ w.heap.size) (ho : w.ownsRow n₀ e size v k xs) (hg : (w.alloc tmp).grownBy w1 v.ownBlock) : Below n₀ a w1 :=
  (h.alloc hn tmp).grown hg (by simp; omega) (fun k e => (ho.lt k e).1)

theorem pre_iff (s : ByteArray) (k : Nat) (h : k < s.size) : ((s.extract 0 k).toList == (s.extract (s.size - k) s.size).toList) = true ↔ Bd (at' s) s.size k := by
  have hl := len_data s
  rw [beq_iff_eq, ByteArray.toList_eq, ByteArray.toList_eq, ext_drop, ext_take, take_drop_iff _ k (s.size - k) (by omega)]
  constructor
  · intro e; exact ⟨h, fun j hj => e j hj⟩
  · intro e j hj; exact e.2 j hj

set_option maxRecDepth 100000 in
set_option maxHeartbeats 1600000 in
theorem refBorder_any (s : ByteArray) (w : World) (hs : s.size ≤ 100000) :
    Calls Try.prog 21 #[.string s] w fun e w' => e = .returned (.int .i64 (mb (at' s) s.size : Nat)) ∧ Dr w w' := by
  go_enter Try.func21, Try.ntmps21
  go_wp2
  go_loopg [3] (s.size + 1) (fun g i wr => ∃ z : Int, i = .int .i64 z ∧ -1 ≤ z ∧ z < s.size ∧ (∀ j : Nat, z < j → j < s.size → ¬ Bd (at' s) s.size j) ∧ (z + 1).toNat ≤ g ∧ Dr w wr)
  case atStart => exact ⟨_, rfl, by omega, by omega, fun j h1 h2 => by omega, by omega, Dr.refl w⟩
  case round =>
    obtain ⟨z, rfl, h1, h2, hno, hg, hd⟩ := hrel
    have HNO := Lib.hid hno
    have HD := Lib.hid hd
    clear hno hd
    by_cases hz : 0 < z
    · obtain ⟨k, rfl⟩ : ∃ k : Nat, z = k := ⟨z.toNat, by omega⟩
      have i1 : (k : Int) ≤ s.size := by omega
      by_cases hb : ((s.extract 0 k).toList == (s.extract (s.size - k) s.size).toList) = true
      · have hm := (pre_iff s k (by omega)).mp hb
        have HR := Lib.hid (mb_eq (f := at' s) (i := s.size) ⟨hm, fun j hj => by
          rcases Nat.lt_or_ge k j with h | h
          · exact (HNO.out j (by omega) hj.1 hj).elim
          · exact h⟩)
        clear hm
        go_wp2
        go_quiet (fail)
        go_wp2
        go_ret
        refine ⟨?_, HD.out.more _⟩
        rw [HR.out]; rfl
      · have hb' : ((s.extract 0 k).toList == (s.extract (s.size - k) s.size).toList) = false := Bool.eq_false_iff.mpr hb
        have HB := Lib.hid (fun h => hb ((pre_iff s k (by omega)).mpr h) : ¬ Bd (at' s) s.size k)
        clear hb
        go_wp2
        go_quiet (fail)
        go_wp2
        go_roundg k
        case rel => exact ⟨_, rfl, by omega, by omega, fun j h3 h4 => (by
          by_cases e : j = k
          · subst e; exact HB.out
          · exact HNO.out j (by omega) h4), by omega, HD.out.more _⟩
        case measure => omega
    · have HR := Lib.hid (show mb (at' s) s.size = 0 by
        rcases Nat.eq_zero_or_pos s.size with h | h
        · rw [h, mb_zero]
        · refine mb_eq ⟨⟨h, fun j hj => by omega⟩, fun j hj => ?_⟩
          rcases Nat.eq_zero_or_pos j with h3 | h3
          · omega
          · exact (HNO.out j (by omega) hj.1 hj).elim)
      go_wp2
      go_ret
      refine ⟨?_, HD.out⟩
      rw [HR.out]; rfl

set_option maxHeartbeats 800000 in
theorem refPeriod_any (s : ByteArray) (w : World) (hs : s.size ≤ 100000) :
    Calls Try.prog 22 #[.string s] w fun e w' => e = .returned (.int .i64 (per s : Nat)) ∧ Dr w w' := by
  have h1 := mb_le s
  have h2 : ((per s : Nat) : Int) = (s.size : Int) - (mb (at' s) s.size : Nat) := by unfold per; omega
  have H := Lib.hid h2
  clear h2
  go_enter Try.func22, Try.ntmps22
  go_wp2_with (go_at_call 21; refine (refBorder_any _ _ hs).mono ?_; rintro e w' ⟨rfl, hb⟩)
  go_ret
  refine ⟨?_, hb⟩
  rw [H.out]; rfl

theorem occ_iff (s u : ByteArray) (k : Nat) (h : k + u.size ≤ s.size) : ((s.extract k (k + u.size)).toList == u.toList) = Lib.occAt s.data.toList u.data.toList k := by
  have hl := len_data s
  have hu := len_data u
  have e : (s.extract k (k + u.size)).data.toList = (s.data.toList.drop k).take u.size := by
    rw [ByteArray.data_extract, Array.toList_extract, List.extract_eq_take_drop]
    rw [show k + u.size - k = u.size by omega]
  rw [Bool.eq_iff_iff, beq_iff_eq, ByteArray.toList_eq, ByteArray.toList_eq, e]
  unfold Lib.occAt
  rw [List.isPrefixOf_iff_prefix, List.prefix_iff_eq_take, hu]
  exact eq_comm

set_option maxRecDepth 100000 in
set_option maxHeartbeats 1600000 in
theorem refFind_any (s u : ByteArray) (w : World) (hs : s.size ≤ 100000) (hu : u.size ≤ 100000) :
    Calls Try.prog 20 #[.string s, .string u] w fun e W' => ∃ v, e = .returned v ∧ W'.ownsRow w.heap.size 3 1 v (occL s.data.toList u.data.toList (s.size + 1)).length (intV (occL s.data.toList u.data.toList (s.size + 1))) ∧ Below w.heap.size w W' := by
  obtain ⟨i0, hi, hz0, hz1, hz2⟩ := info_parts Try.info3z
  have hl := len_data s
  have hlu := len_data u
  have HL := Lib.hid hl
  have HLU := Lib.hid hlu
  clear hl hlu
  go_enter Try.func20, Try.ntmps20
  go_wp2
  have h0 := World.ownsRow_made (base := w.heap.size) (e := 3) (size := 1) w #[] 0 (Nat.le_refl _) (by unfold maxLen; omega) (by rfl)
  go_loopg [5, 6] (s.size + 1) (fun g v i wr => ∃ k : Nat, i = .int .i64 k ∧ k ≤ s.size + 1 ∧ s.size + 1 - k ≤ g ∧ wr.ownsRow w.heap.size 3 1 v (occL s.data.toList u.data.toList k).length (intV (occL s.data.toList u.data.toList k)) ∧ Below w.heap.size w wr)
  case atStart => exact ⟨0, rfl, by omega, by omega, h0, (Below.refl _ _).alloc (Nat.le_refl _) _⟩
  case round =>
    obtain ⟨k, rfl, hk, hg, hown, hb⟩ := hrel
    have HB := Lib.hid hb
    clear h0 hb
    by_cases hroom : k + u.size ≤ s.size
    · have t1 : (k : Int) + u.size ≤ s.size := by omega
      have i1 : (k : Int) ≤ (k : Int) + u.size := by omega
      have hpl := occL_length s.data.toList u.data.toList k
      by_cases ho : Lib.occAt s.data.toList u.data.toList k = true
      · have ht : ((s.extract k (k + u.size)).toList == u.toList) = true := by rw [occ_iff s u k hroom]; exact ho
        have HS := Lib.hid (occL_succ_hit ho)
        clear ho
        go_wp2_with (at_builtin; refine wpList_append_own _ rfl _ _ 29 rfl w.heap.size 3 i0 (.int .i64 0) 1 8 Try.underlying29 hi hz0 hz1 hz2 rfl (by decide) _ _ _ rfl (hown.alloc _) ⟨wr.heap.size, 0, none⟩ 1 1 [.int .i64 k] rfl rfl (cell_one_new _ _ _) (by simp [Value.oneCell']) (by unfold maxLen; omega) (by omega) (by have := HB.out.size; simp; omega) ?_; intro v' w1 hown' hgrow _)
        go_roundg (s.size - k)
        case rel => exact ⟨k + 1, by go_num, by omega, by omega, by rw [HS.out, intV_snoc, List.length_append]; exact hown', below_append HB.out HB.out.size hown hgrow⟩
        case measure => omega
      · have ht : ((s.extract k (k + u.size)).toList == u.toList) = false := by rw [occ_iff s u k hroom]; exact Bool.eq_false_iff.mpr ho
        have HS := Lib.hid (occL_succ_miss (Bool.eq_false_iff.mpr ho))
        clear ho
        go_wp2
        go_roundg (s.size - k)
        case rel => exact ⟨k + 1, by go_num, by omega, by omega, by rw [HS.out]; exact hown, HB.out⟩
        case measure => omega
    · have t1 : ¬ (k : Int) + u.size ≤ s.size := by omega
      have HE := Lib.hid (occ_end (s := s.data.toList) (u := u.data.toList) (n := k) (by rw [HL.out, HLU.out]; omega) (by rw [HL.out]; omega))
      go_wp2
      go_ret
      refine ⟨_, rfl, ?_, HB.out⟩
      rw [← HL.out, HE.out]
      exact hown
end Go.Proofs.Gv
