/- The law WordRoots, walked. -/
import Derived.Test.YtlaakomeofldgaaRootL
import Derived.OpenShut
namespace Go.Proofs.Gv
open Go Go.RowKit

theorem size_pos_of_ne {s : ByteArray} (h : s.toList.isEmpty = false) : 0 < s.size := by
  rw [ByteArray.toList_eq] at h
  rcases s with ⟨⟨l⟩⟩
  cases l with
  | nil => simp at h
  | cons a l => simp [ByteArray.size]
theorem ne_of_size_pos {s : ByteArray} (h : 0 < s.size) : s.toList.isEmpty = false := by
  rw [ByteArray.toList_eq]
  rcases s with ⟨⟨l⟩⟩
  cases l with
  | nil => simp [ByteArray.size] at h
  | cons a l => rfl
theorem empty_of_size {s : ByteArray} (h : ¬ 0 < s.size) : s = ⟨#[]⟩ := by
  rcases s with ⟨⟨l⟩⟩
  cases l with
  | nil => rfl
  | cons a l => simp [ByteArray.size] at h

set_option maxRecDepth 100000 in
set_option maxHeartbeats 1600000 in
theorem law_roots (s u : ByteArray) (n : Int) (m : Int) (w : World) (hs : s.size ≤ maxLen) (hu : u.size ≤ maxLen) (hn : (Lit.int .u8 n).wf = true) (hm : w.cell? ⟨0, 0, none⟩ = some (.int .i64 m)) (h₀ : 0 < w.heap.size) :
    Calls Try.prog 7 #[.string s, .string u, .int .u8 n] w fun e w' => e = .returned (.bool true) ∧ Below w.heap.size w w' := by
  unfold maxLen at hs hu
  have HM := Lib.hid hm
  clear hm
  have hn0 := bounds_u8 hn
  clear hn
  by_cases h1 : 24 < s.size
  · go_enter Try.func7, Try.ntmps7
    go_wp2_with (go_at_call 12; refine (awake07 m _ HM.out h₀).mono ?_; rintro e w' ⟨rfl, hb⟩)
    go_ret
    exact ⟨rfl, hb⟩
  by_cases h2 : 24 < u.size
  · go_enter Try.func7, Try.ntmps7
    go_wp2_with (go_at_call 12; refine (awake07 m _ HM.out h₀).mono ?_; rintro e w' ⟨rfl, hb⟩)
    go_ret
    exact ⟨rfl, hb⟩
  by_cases h3 : 0 < s.size
  case neg =>
    obtain rfl := empty_of_size h3
    go_enter Try.func7, Try.ntmps7
    go_wp2_with (go_at_call 12; refine (awake07 m _ HM.out h₀).mono ?_; rintro e w' ⟨rfl, hb⟩)
    go_ret
    exact ⟨rfl, hb⟩
  by_cases h4 : 0 < u.size
  case neg =>
    obtain rfl := empty_of_size h4
    have t1 := ne_of_size_pos h3
    go_enter Try.func7, Try.ntmps7
    go_wp2_with (go_at_call 12; refine (awake07 m _ HM.out h₀).mono ?_; rintro e w' ⟨rfl, hb⟩)
    go_ret
    exact ⟨rfl, hb⟩
  have t1 := ne_of_size_pos h3
  have t2 := ne_of_size_pos h4
  obtain ⟨c, hc⟩ : ∃ c : Nat, n % 4 + 1 = c := ⟨(n % 4 + 1).toNat, by omega⟩
  have hc1 : 1 ≤ c ∧ c ≤ 4 := by omega
  have r1 := rl_pos s h3
  have r2 := rl_le s
  have r3 := rl_pos u h4
  have r4 := rl_le u
  have hk1 : 1 ≤ s.size / rl s := Nat.div_pos r2 r1
  have hk2 : s.size / rl s ≤ 24 := Nat.le_trans (Nat.div_le_self _ _) (by omega)
  have hk3 : 1 ≤ u.size / rl u := Nat.div_pos r4 r3
  have hra := root_root s h3
  have hsa := size_take s (rl s) r2
  have hsz : c * s.size ≤ 100 := by
    have : c * s.size ≤ 4 * 24 := Nat.mul_le_mul hc1.2 (by omega)
    omega
  have HA := Lib.hid (fun W => Root_any s W (by omega))
  have HBr := Lib.hid (fun W => Root_any u W (by omega))
  have HAA := Lib.hid (fun W => Root_any (s.extract 0 (rl s)) W (by omega))
  have HRp := Lib.hid (fun W => Try.strings_Repeat s c W (by omega) (by rw [Nat.mul_comm]; omega))
  have HRt := Lib.hid (fun W => Root_any ⟨(Lib.repeatL s.data.toList c).toArray⟩ W (by rw [size_mk, Lib.repeatL_length, len_data]; omega))
  have HRk := Lib.hid (fun W => Try.strings_Repeat (s.extract 0 (rl s)) (s.size / rl s) W (by omega) (by rw [hsa, Nat.mul_comm, Nat.div_mul_cancel (rl_dvd_size s)]; omega))
  unfold RetRoot at HA HBr HAA HRt
  rw [rl_repeat s c h3 hc1.1, root_repeat s c h3 hc1.1, size_mk, Lib.repeatL_length, len_data, div_repeat] at HRt
  rw [root_pow s h3] at HRk
  have hself : (s.extract 0 (rl s)).extract 0 (rl s) = s.extract 0 (rl s) := by
    apply ba_ext; rw [ext_take, ext_take, List.take_take, Nat.min_self]
  rw [hra, hself, hsa, Nat.div_self r1] at HAA
  have tc := comm_iff s u h3 h4
  obtain ⟨A, hA⟩ : ∃ A, s.extract 0 (rl s) = A := ⟨_, rfl⟩
  obtain ⟨B, hB⟩ : ∃ B, u.extract 0 (rl u) = B := ⟨_, rfl⟩
  obtain ⟨k, hk⟩ : ∃ k, s.size / rl s = k := ⟨_, rfl⟩
  obtain ⟨j, hj⟩ : ∃ j, u.size / rl u = j := ⟨_, rfl⟩
  obtain ⟨R, hR⟩ : ∃ R : ByteArray, (⟨(Lib.repeatL s.data.toList c).toArray⟩ : ByteArray) = R := ⟨_, rfl⟩
  rw [hA] at HA HAA HRt HRk tc
  rw [hB] at HBr tc
  rw [hk] at HA HRt HRk hk1 hk2
  rw [hj] at HBr hk3
  rw [hR] at HRp HRt
  have hkc : ((k * c : Nat) : Int) = (k : Int) * (n % 4 + 1) := by rw [hc]; simp
  rw [hkc] at HRt
  have hb1 : 0 ≤ (k : Int) * (n % 4 + 1) := by rw [← hkc]; omega
  have hb2 : (k : Int) * (n % 4 + 1) ≤ 96 := by
    have : k * c ≤ 24 * 4 := Nat.mul_le_mul hk2 hc1.2
    rw [← hkc]; omega
  rw [← hc] at HRp
  clear hA hB hk hj hR hc hkc hself hra hsa r1 r2 r3 r4 hsz
  go_enter Try.func7, Try.ntmps7
  have HB0 := Lib.hid (Below.refl w.heap.size w)
  go_wp2_with fail
  refine (HA.out _).mono ?_
  rintro e w1 ⟨rfl, hb⟩
  have HB1 := Lib.hid (bstep HB0.out hb)
  clear hb
  go_wp2_with fail
  refine (HBr.out _).mono ?_
  rintro e w2 ⟨rfl, hb⟩
  have HB2 := Lib.hid (bstep HB1.out hb)
  clear hb
  go_wp2_with fail
  refine (HAA.out _).mono ?_
  rintro e w3 ⟨rfl, hb⟩
  have HB3 := Lib.hid (bstep HB2.out hb)
  clear hb
  go_wp2_with fail
  refine (HRp.out _).mono ?_
  rintro e w4 ⟨rfl, hb⟩
  have HB4 := Lib.hid (bstep HB3.out hb)
  clear hb
  go_wp2_with fail
  refine (HRt.out _).mono ?_
  rintro e w5 ⟨rfl, hb⟩
  have HB5 := Lib.hid (bstep HB4.out hb)
  clear hb
  go_wp2_with fail
  refine (HRk.out _).mono ?_
  rintro e w6 ⟨rfl, hb⟩
  have HB6 := Lib.hid (bstep HB5.out hb)
  clear hb
  go_wp2_with fail
  refine (awake07 m _ ((HB6.out.cell (p := ⟨0, 0, none⟩) h₀).trans HM.out) (Nat.lt_of_lt_of_le h₀ HB6.out.size)).mono ?_
  rintro e wc ⟨rfl, hb⟩
  go_wp2
  go_ret
  exact ⟨rfl, bstep HB6.out hb⟩
end Go.Proofs.Gv
