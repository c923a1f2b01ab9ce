/- grooveref07.Reverse. -/
import Derived.Test.YtlaakomeofldgaaRefs07
namespace Go.Proofs.Gv
open Go Go.RowKit

theorem Try.info5r : (Try.prog.info? 5).map (fun i => (i.zero, i.size, i.bytes)) = some (some (.int .u8 0), 1, 1) := by kernel_rfl

/-- Letters as values. -/
def u8L (l : List UInt8) : List Value := l.map u8V
theorem conv_row {W : World} {B : Nat} {v : Value} {l : List UInt8} (h : W.ownsRow B 5 1 v l.length (u8L l)) :
    (Go.convert 63 9 v).run Try.prog W = .ok (.string ⟨l.toArray⟩) W := by
  rcases h.2 with ⟨rfl, hn⟩ | ⟨g, cap, cur, rfl, hB, hg, hn, hm, hs, ht⟩
  · have : l = [] := List.eq_nil_of_length_eq_zero hn
    subst this
    exact run_convert_bytes_nil (P := Try.prog) W 63 5 Try.underlying63 Try.underlying5 0 0 9 Try.underlying9
  · refine run_convert_bytes_back (P := Try.prog) W 63 9 5 ⟨g, 0, none⟩ cap l Try.underlying63 Try.underlying5 Try.underlying9 (fun j hj => ?_)
    have e : (⟨g, 0, none⟩ : Addr).add j = ⟨g, j, none⟩ := by unfold Addr.add; split <;> simp_all
    have h1 : cur[j]? = some (.int .u8 (l[j].toNat : Int)) := by
      have h2 : (cur.toList.take (l.length * 1))[j]? = some (.int .u8 (l[j].toNat : Int)) := by
        rw [ht]; unfold u8L; simp [hj, u8V]
      rw [List.getElem?_take, if_pos (by omega)] at h2
      simpa using h2
    rw [e]
    simp [World.cell?, hg, h1]

theorem rev_take (s : ByteArray) (k : Nat) (h : k < s.size) : s.data.toList.reverse.take (s.size - k) = s.data.toList.reverse.take (s.size - (k + 1)) ++ [at' s k] := by
  have hl := len_data s
  rw [show s.size - k = (s.size - (k + 1)) + 1 by omega]
  rw [List.take_succ_eq_append_getElem (by rw [List.length_reverse]; omega)]
  congr 2
  rw [List.getElem_reverse]
  unfold at'
  rw [List.getD_eq_getElem?_getD, List.getElem?_eq_getElem (by omega)]
  simp only [Option.getD_some]
  congr 1
  omega
theorem u8L_snoc (l : List UInt8) (c : UInt8) : u8L (l ++ [c]) = u8L l ++ [.int .u8 c.toNat] := by simp [u8L, u8V]

set_option maxRecDepth 100000 in
set_option maxHeartbeats 1600000 in
theorem refReverse_any (s : ByteArray) (w : World) (hs : s.size ≤ 100000) :
    Calls Try.prog 24 #[.string s] w fun e W' => e = .returned (.string ⟨s.data.toList.reverse.toArray⟩) ∧ Below w.heap.size w W' := by
  obtain ⟨i0, hi, hz0, hz1, hz2⟩ := info_parts Try.info5r
  go_enter Try.func24, Try.ntmps24
  go_wp2
  have h0 := World.ownsRow_made (base := w.heap.size) (e := 5) (size := 1) w #[] 0 (Nat.le_refl _) (by unfold maxLen; omega) (by rfl)
  go_loopg [3, 4] (s.size + 1) (fun g v i wr => ∃ (z : Int) (k : Nat), i = .int .i64 z ∧ z + 1 = k ∧ k ≤ s.size ∧ k ≤ g ∧ wr.ownsRow w.heap.size 5 1 v (s.data.toList.reverse.take (s.size - k)).length (u8L (s.data.toList.reverse.take (s.size - k))) ∧ Below w.heap.size w wr)
  case atStart => exact ⟨_, s.size, rfl, by omega, Nat.le_refl _, by omega, by rw [Nat.sub_self]; exact h0, (Below.refl _ _).alloc (Nat.le_refl _) _⟩
  case round =>
    obtain ⟨z, k, rfl, hz, hk, hg, hown, hb⟩ := hrel
    have HB := Lib.hid hb
    clear h0 hb
    rcases k with _ | k
    · obtain rfl : z = -1 := by omega
      clear hz
      have e : s.data.toList.reverse.take (s.size - 0) = s.data.toList.reverse := by
        rw [List.take_of_length_le]
        rw [List.length_reverse, len_data]; omega
      rw [e] at hown
      have hcv := conv_row hown
      clear e hown
      go_wp2
      go_ret
      exact ⟨rfl, HB.out⟩
    · obtain rfl : z = k := by omega
      clear hz
      have hx : (s[k]'(by omega)) = at' s k := at'_eq (by omega)
      have i1 : (k : Int) < s.size := by omega
      have i0' : (0 : Int) ≤ k := by omega
      have HT := Lib.hid (rev_take s k (by omega))
      have hpl : (s.data.toList.reverse.take (s.size - (k + 1))).length ≤ s.size := by
        have := List.length_take_le (s.size - (k + 1)) s.data.toList.reverse; omega
      obtain ⟨L, hL⟩ : ∃ L, s.data.toList.reverse.take (s.size - (k + 1)) = L := ⟨_, rfl⟩
      rw [hL] at hown HT hpl
      clear hL
      go_wp2_with (at_builtin; refine wpList_append_own _ rfl _ _ 63 rfl w.heap.size 5 i0 (.int .u8 0) 1 1 Try.underlying63 hi hz0 hz1 hz2 rfl (by decide) _ _ _ rfl (hown.alloc _) ⟨wr.heap.size, 0, none⟩ 1 1 [.int .u8 (at' s k).toNat] rfl rfl (cell_one_new _ _ _) (by simp [Value.oneCell']) (by unfold maxLen; omega) (by omega) (by have := HB.out.size; simp; omega) ?_; intro v' w1 hown' hgrow _)
      go_roundg k
      case rel => exact ⟨_, k, rfl, by omega, by omega, Nat.le_refl _, by rw [HT.out, u8L_snoc, List.length_append]; exact hown', below_append HB.out HB.out.size hown hgrow⟩
      case measure => omega
end Go.Proofs.Gv
