/- TopSystematic: the walk of the law. -/
import Derived.Test.YtjnlfmhckdijlaaTenc
import Derived.OpenShut
set_option linter.unusedSimpArgs false
set_option linter.unusedVariables false
namespace Go.Proofs.Gv
open Go Go.RowKit

@[go_sem] theorem run_max_zero4 {P : Program} {w : World} (ts : Array TypeId) (t : TypeId) : (Builtin.max_ ts t #[.int .i64 0, .int .i64 0, .int .i64 0, .int .i64 0]).run P w = .ok (.int .i64 0) w := by
  first
  | rfl
  | simp [Builtin.max_, go_sem]
set_option maxRecDepth 100000 in
set_option maxHeartbeats 8000000 in
theorem law_sys (w : World) (n : Int) (wn : (Lit.int .u8 n).wf = true) (a : ByteArray) (wa : a.size ≤ maxLen) (b : ByteArray) (wb : b.size ≤ maxLen) :
    Calls Try.prog 4 #[.int .u8 n, .string a, .string b] w fun e w' => e = .returned (.bool true) ∧ Below w.heap.size w w' := by
  unfold maxLen at wa wb
  have hnb : 0 ≤ n ∧ n ≤ 255 := bounds_u8 wn
  obtain ⟨N, rfl⟩ : ∃ N : Nat, n = N := ⟨n.toNat, by omega⟩
  obtain ⟨j, hj⟩ : ∃ j, N % 16 = j := ⟨_, rfl⟩
  have hjb : j ≤ 15 := by omega
  have hr1 : ((N : Int) % 16) = (j : Int) := by omega
  have hr2 : (N : Int).tmod 16 = (j : Int) := by rw [Int.tmod_eq_emod_of_nonneg (by omega), hr1]
  have em : ((j + 1 : Nat) : Int) = 1 + (j : Int) := by omega
  have HD := Lib.hid (fun W => Data_any (j + 1) (by omega) W)
  have HAW := Lib.hid (fun W => awake48_any W)
  have HCA := Lib.hid (fun W => rCheckW_any 2 a W (by omega))
  have HCB := Lib.hid (fun W => rCheckW_any 2 b W (by omega))
  have HEA := Lib.hid (fun h1 h2 W => Encode_any (j + 1) a (by omega) (by omega) h1 h2 W)
  have HEB := Lib.hid (fun h1 h2 W => Encode_any (j + 1) b (by omega) (by omega) h1 h2 W)
  have hkb : freeN 0 (j + 1) ≤ 16 := by have := freeN_le (j + 1) 0; omega
  obtain ⟨k, hk⟩ : ∃ k, freeN 0 (j + 1) = k := ⟨_, rfl⟩
  rw [em, hk] at HD
  rw [em] at HEA HEB
  have HKK := Lib.hid hk
  rw [hk] at hkb
  clear hj wn em hk
  by_cases ha : ((a.size : Int) != (k : Int)) = true
  · go_enter Try.func4, Try.ntmps4
    go_wp2_with fail
    refine (HD.out _).mono ?_
    rintro e w1 ⟨rfl, e1⟩
    obtain rfl : w = w1 := e1.symm
    go_wp2_with fail
    refine (HAW.out _).mono ?_
    rintro e w9 ⟨rfl, hb⟩
    go_wp2
    go_ret
    exact ⟨rfl, hb⟩
  have haB : ((a.size : Int) != (k : Int)) = false := by simpa using ha
  have haE : a.size = k := by simp at haB; omega
  by_cases hb : ((b.size : Int) != (k : Int)) = true
  · clear ha haE
    go_enter Try.func4, Try.ntmps4
    go_wp2_with fail
    refine (HD.out _).mono ?_
    rintro e w1 ⟨rfl, e1⟩
    obtain rfl : w = w1 := e1.symm
    go_wp2_with fail
    refine (HAW.out _).mono ?_
    rintro e w9 ⟨rfl, hb⟩
    go_wp2
    go_ret
    exact ⟨rfl, hb⟩
  have hbB : ((b.size : Int) != (k : Int)) = false := by simpa using hb
  have hbE : b.size = k := by simp at hbB; omega
  have HSA := Lib.hid haE
  have HSB := Lib.hid hbE
  clear ha hb haE hbE
  by_cases hca : ¬ chk 2 a = 0
  · obtain ⟨E, hE⟩ : ∃ E, chk 2 a = E := ⟨_, rfl⟩
    rw [hE] at HCA hca
    have hne : (E != 0) = true := by simpa using hca
    clear hca hE
    go_enter Try.func4, Try.ntmps4
    go_wp2_with fail
    refine (HD.out _).mono ?_
    rintro e w1 ⟨rfl, e1⟩
    obtain rfl : w = w1 := e1.symm
    go_wp2_with fail
    refine (HCA.out _).mono ?_
    rintro e w1 ⟨rfl, e1⟩
    obtain rfl : w = w1 := e1
    go_wp2_with fail
    refine (HAW.out _).mono ?_
    rintro e w9 ⟨rfl, hb⟩
    go_wp2
    go_ret
    exact ⟨rfl, hb⟩
  have hca := Decidable.not_not.1 hca
  rw [hca] at HCA
  by_cases hcb : ¬ chk 2 b = 0
  · obtain ⟨E, hE⟩ : ∃ E, chk 2 b = E := ⟨_, rfl⟩
    rw [hE] at HCB hcb
    have hne : (E != 0) = true := by simpa using hcb
    clear hca hcb hE
    go_enter Try.func4, Try.ntmps4
    go_wp2_with fail
    refine (HD.out _).mono ?_
    rintro e w1 ⟨rfl, e1⟩
    obtain rfl : w = w1 := e1.symm
    go_wp2_with fail
    refine (HCA.out _).mono ?_
    rintro e w1 ⟨rfl, e1⟩
    obtain rfl : w = w1 := e1
    go_wp2_with fail
    refine (HCB.out _).mono ?_
    rintro e w1 ⟨rfl, e1⟩
    obtain rfl : w = w1 := e1
    go_wp2_with fail
    refine (HAW.out _).mono ?_
    rintro e w9 ⟨rfl, hb⟩
    go_wp2
    go_ret
    exact ⟨rfl, hb⟩
  have hcb := Decidable.not_not.1 hcb
  rw [hcb] at HCB
  have ba := chk_bin hca
  have bb := chk_bin hcb
  have HE1 := Lib.hid (HEA.out ba (by rw [HKK.out]; exact HSA.out))
  have HE2 := Lib.hid (HEB.out bb (by rw [HKK.out]; exact HSB.out))
  have sx := sysW_size (j + 1) a
  have sy := sysW_size (j + 1) b
  have bx := sysW_bin (n := j + 1) ba
  have by_ := sysW_bin (n := j + 1) bb
  have hsyn : syn (sysW (j + 1) a) = syn (sysW (j + 1) b) := by rw [sysW_syn (by omega), sysW_syn (by omega)]
  have HFAR := Lib.hid (fun (h : a ≠ b) => code_far bx by_ sx sy hsyn (fun e => h (sysW_inj (n := j + 1) (by rw [HKK.out]; exact HSA.out) (by rw [HKK.out]; exact HSB.out) e)))
  have HSAME := Lib.hid (fun (h : a = b) => show sysW (j + 1) a = sysW (j + 1) b from by rw [h])
  have c16a := (bin_chk bx (by omega)).2
  have c16b := (bin_chk by_ (by omega)).2
  obtain ⟨x, hx⟩ : ∃ x, sysW (j + 1) a = x := ⟨_, rfl⟩
  obtain ⟨y, hy⟩ : ∃ y, sysW (j + 1) b = y := ⟨_, rfl⟩
  rw [hx] at HE1 HFAR HSAME sx c16a
  rw [hy] at HE2 HFAR HSAME sy c16b
  have HDI := Lib.hid (fun W => Distance_any x y (by omega) (by omega) c16a c16b W)
  have HCO := Lib.hid (fun W => Conf_any x y (by omega) (by omega) (by omega) c16a c16b W)
  have HSX := Lib.hid (show x.size = j + 1 ∧ y.size = j + 1 from ⟨sx, sy⟩)
  obtain ⟨d, hd⟩ : ∃ d, dst x y = d := ⟨_, rfl⟩
  obtain ⟨c, hc⟩ : ∃ c, decide (x.size ≤ lcsL x.data.toList y.data.toList + 1) = c := ⟨_, rfl⟩
  rw [hd] at HDI
  rw [hc] at HCO
  have HDD := Lib.hid hd
  have HCC := Lib.hid hc
  clear hca hcb ba bb sx sy bx by_ hsyn c16a c16b hx hy hd hc
  by_cases hab : a = b
  · have hq : (a.toList == b.toList) = true := by rw [hab]; simp
    have hxy := HSAME.out hab
    have hq2 : (x.toList == y.toList) = true := by rw [hxy]; simp
    have hd0 : d = 0 := by
      rw [← HDD.out, hxy]
      unfold dst
      rw [lcs_self, size_list]
      omega
    subst hd0
    clear hab hxy
    go_enter Try.func4, Try.ntmps4
    go_wp2_with fail
    refine (HD.out _).mono ?_
    rintro e w1 ⟨rfl, e1⟩
    obtain rfl : w = w1 := e1.symm
    go_wp2_with fail
    refine (HCA.out _).mono ?_
    rintro e w1 ⟨rfl, e1⟩
    obtain rfl : w = w1 := e1
    go_wp2_with fail
    refine (HCB.out _).mono ?_
    rintro e w1 ⟨rfl, e1⟩
    obtain rfl : w = w1 := e1
    go_wp2_with fail
    refine (HE1.out _).mono ?_
    rintro e w1 ⟨rfl, hb1⟩
    have HB1 := Lib.hid hb1
    clear hb1
    go_wp2_with fail
    refine (HE2.out _).mono ?_
    rintro e w2 ⟨rfl, hb2⟩
    have HB2 := Lib.hid (bstep HB1.out hb2)
    clear hb2
    go_wp2_with fail
    refine (HDI.out _).mono ?_
    rintro e w3 ⟨rfl, hb3⟩
    have HB3 := Lib.hid (bstep HB2.out hb3)
    clear hb3
    go_wp2_with fail
    refine (HCO.out _).mono ?_
    rintro e w4 ⟨rfl, hb4⟩
    have HB4 := Lib.hid (bstep HB3.out hb4)
    clear hb4
    go_wp2_with fail
    refine (HAW.out _).mono ?_
    rintro e w5 ⟨rfl, hb5⟩
    have HB5 := Lib.hid (bstep HB4.out hb5)
    clear hb5
    go_wp2
    go_ret
    exact ⟨rfl, HB5.out⟩
  · have hq : (a.toList == b.toList) = false := by
      rw [beq_eq_false_iff_ne, ByteArray.toList_eq, ByteArray.toList_eq]
      exact fun e => hab (ba_ext e)
    have hfar := HFAR.out hab
    have hd4 : decide ((4 : Int) ≤ (d : Int)) = true := by
      rw [← HDD.out]
      unfold dst
      have := HSX.out
      simp
      omega
    have hd4I : (4 : Int) ≤ (d : Int) := by simpa using hd4
    have hc0 : c = false := by
      rw [← HCC.out]
      have := HSX.out
      simp
      omega
    subst hc0
    clear hab hfar
    go_enter Try.func4, Try.ntmps4
    go_wp2_with fail
    refine (HD.out _).mono ?_
    rintro e w1 ⟨rfl, e1⟩
    obtain rfl : w = w1 := e1.symm
    go_wp2_with fail
    refine (HCA.out _).mono ?_
    rintro e w1 ⟨rfl, e1⟩
    obtain rfl : w = w1 := e1
    go_wp2_with fail
    refine (HCB.out _).mono ?_
    rintro e w1 ⟨rfl, e1⟩
    obtain rfl : w = w1 := e1
    go_wp2_with fail
    refine (HE1.out _).mono ?_
    rintro e w1 ⟨rfl, hb1⟩
    have HB1 := Lib.hid hb1
    clear hb1
    go_wp2_with fail
    refine (HE2.out _).mono ?_
    rintro e w2 ⟨rfl, hb2⟩
    have HB2 := Lib.hid (bstep HB1.out hb2)
    clear hb2
    go_wp2_with fail
    refine (HDI.out _).mono ?_
    rintro e w3 ⟨rfl, hb3⟩
    have HB3 := Lib.hid (bstep HB2.out hb3)
    clear hb3
    go_wp2_with fail
    refine (HCO.out _).mono ?_
    rintro e w4 ⟨rfl, hb4⟩
    have HB4 := Lib.hid (bstep HB3.out hb4)
    clear hb4
    go_wp2_with fail
    refine (HAW.out _).mono ?_
    rintro e w5 ⟨rfl, hb5⟩
    have HB5 := Lib.hid (bstep HB4.out hb5)
    clear hb5
    go_wp2
    go_ret
    exact ⟨rfl, HB5.out⟩
end Go.Proofs.Gv
