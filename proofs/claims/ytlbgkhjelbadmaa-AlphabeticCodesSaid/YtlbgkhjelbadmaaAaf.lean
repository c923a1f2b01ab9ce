/- Alphabetic codes: the next word in the reference. -/
import Derived.Test.YtlbgkhjelbadmaaAnx
import Derived.Test.YtlbgkhjelbadmaaStrP
set_option linter.unusedSimpArgs false
set_option linter.unusedVariables false
namespace Go.Proofs.Gv
open Go Go.RowKit Go.Maps

theorem zB_succ (k : Nat) : zB k ++ ⟨#[48]⟩ = zB (k + 1) := by
  refine baExt ?_
  rw [ByteArray.data_append, Array.toList_append]
  show List.replicate k 48 ++ [48] = List.replicate (k + 1) 48
  rw [List.replicate_succ']
set_option maxRecDepth 100000 in
set_option maxHeartbeats 1600000 in
theorem zeros_any (n : Nat) (hn : n ≤ 1000) (w : World) : Calls Try.prog 73 #[.int .i64 n] w fun e w' => e = .returned (.string (zB n)) ∧ w' = w := by
  go_enter Try.func73, Try.ntmps73
  go_wp2_with fail
  go_loopg [3, 4] (n + 1) (fun gg x3 x4 wr => ∃ (k : Nat) (z : ByteArray), x4 = .int .i64 (k : Int) ∧ x3 = .string z ∧ k ≤ n ∧ n - k < gg ∧ z = zB k ∧ wr = w)
  case atStart => exact ⟨0, _, rfl, rfl, Nat.zero_le _, by omega, rfl, rfl⟩
  case round =>
    obtain ⟨k, z, rfl, rfl, hk, hg, hz, rfl⟩ := hrel
    have HG := Lib.hid hg
    have hzs : z.size ≤ 1000 := by rw [hz, zB_size]; omega
    have HZ := Lib.hid hz
    clear hg hz
    by_cases hlt : k < n
    · have hltI : (k : Int) < n := by omega
      go_wp2
      go_roundg (n - k)
      case rel => exact ⟨k + 1, _, by go_num, rfl, by omega, by omega, by rw [HZ.out]; exact zB_succ k, rfl⟩
      case measure => have := HG.out; omega
    · obtain rfl : k = n := by omega
      have hB : decide ((k : Int) < k) = false := by simp
      go_wp2
      go_ret
      exact ⟨by rw [HZ.out]; rfl, rfl⟩
def afS (s : ByteArray) (n : Nat) : ByteArray := match nxB s n with | none => ⟨#[]⟩ | some u => u
theorem at_lz {s : ByteArray} {k : Nat} (h : k < s.size) : s.data.toList[k]? = some (at' s k) := by
  unfold at'
  rw [List.getD_eq_getElem?_getD, List.getElem?_eq_getElem (by rw [sz_list]; exact h)]
  rfl
set_option maxRecDepth 100000 in
set_option maxHeartbeats 1600000 in
theorem after_any (s : ByteArray) (n : Nat) (hs : s.size ≤ 1000) (hn : n ≤ 1000) (w : World) :
    Calls Try.prog 74 #[.string s, .int .i64 n] w fun e w' => e = .returned (.string (afS s n)) ∧ Below w.heap.size w w' := by
  have HN := Lib.hid (show nxB s n = (lzr s.data.toList (min n s.size)).map fun k => oB (s.data.toList.take k ++ 49 :: List.replicate (n - k - 1) 48) from by
    unfold nxB nxS; rw [sz_list, Option.map_map]; rfl)
  go_enter Try.func74, Try.ntmps74
  go_wp2_with fail
  go_loopg [5] (s.size + 1) (fun gg x5 wr => ∃ (k : Nat), x5 = .int .i64 ((k : Int) - 1) ∧ k ≤ s.size ∧ k < gg ∧ lzr s.data.toList (min n s.size) = lzr s.data.toList (min n k) ∧ wr = w)
  case atStart => exact ⟨s.size, rfl, Nat.le_refl _, by omega, rfl, rfl⟩
  case round =>
    obtain ⟨k, rfl, hk, hg, hz, rfl⟩ := hrel
    have HG := Lib.hid hg
    have HZ := Lib.hid hz
    clear hg hz
    cases k with
    | zero =>
      have HR := Lib.hid (show afS s n = ⟨#[]⟩ from by
        unfold afS; rw [HN.out, HZ.out, Nat.min_zero]; rfl)
      go_wp2
      go_ret
      exact ⟨by rw [HR.out]; rfl, Below.refl _ _⟩
    | succ m =>
      rw [show ((m + 1 : Nat) : Int) - 1 = (m : Int) from by omega]
      have hms : m < s.size := by omega
      have hmI : (m : Int) < s.size := by omega
      have hx : (s[m]'(by omega)) = at' s m := at'_eq (by omega)
      have hat := at_lz hms
      obtain ⟨c, hc⟩ : ∃ c, at' s m = c := ⟨_, rfl⟩
      rw [hc] at hx hat
      have HAT := Lib.hid hat
      clear hat
      by_cases hmn : m < n
      · have hnI : (m : Int) < n := by omega
        have HZ2 := Lib.hid (show lzr s.data.toList (min n s.size) = if c = 48 then some m else lzr s.data.toList m from by
          rw [HZ.out, Nat.min_eq_right (by omega)]
          show (if s.data.toList[m]? = some 48 then some m else lzr s.data.toList m) = _
          rw [HAT.out]
          simp)
        by_cases h48 : c = 48
        · have hb : ((c.toNat : Int) == 48) = true := by rw [h48]; rfl
          obtain ⟨r, hr⟩ : ∃ r, n - m - 1 = r := ⟨_, rfl⟩
          have hrI : (n : Int) - (m : Int) - 1 = (r : Int) := by omega
          have HZR := Lib.hid (fun W => zeros_any r (by omega) W)
          have HR := Lib.hid (show afS s n = s.extract 0 m ++ ⟨#[49]⟩ ++ zB r from by
            unfold afS; rw [HN.out, HZ2.out, if_pos h48, join_nx, ← hr]; rfl)
          have hzs : (zB r).size ≤ 1000 := by rw [zB_size]; omega
          obtain ⟨z, hzz⟩ : ∃ z, zB r = z := ⟨_, rfl⟩
          rw [hzz] at HZR HR hzs
          clear h48 hc hr hzz
          go_wp2_with fail
          refine wp_region_mix [.q [0, 1, 2, 3, 4, 5, 6, 7], .r 8, .q [9, 10]] [] (by kernel_rfl) (by kernel_rfl) (by intro d v c a w h; cases d <;> exact h) ?_
          intro X0 hb0 hz0
          have HB0 := Lib.hid hb0
          clear hb0 hz0
          refine wpMix_q ?_
          simp only [pickO, List.map_cons, List.map_nil, List.getElem?_toArray, List.getElem?_cons_succ, List.getElem?_cons_zero, Option.getD_some]
          haveI := cv_some X0
          iterate 8 (go_big_quiet_step (fail))
          refine wpQuiet_nil ?_
          clear this
          refine wpMix_r ?_
          simp only [pickO, List.map_cons, List.map_nil, List.getElem?_toArray, List.getElem?_cons_succ, List.getElem?_cons_zero, Option.getD_some]
          go_wp2_with fail
          refine (HZR.out _).mono ?_
          rintro e w2 ⟨rfl, e2⟩
          obtain rfl : X0 = w2 := e2.symm
          go_wp2_with fail
          refine mixQ_ok (Below.refl _ _) ?_
          refine wpMix_q ?_
          simp only [pickO, List.map_cons, List.map_nil, List.getElem?_toArray, List.getElem?_cons_succ, List.getElem?_cons_zero, Option.getD_some]
          haveI := cv_some X0
          iterate 2 (go_big_quiet_step (fail))
          refine wpQuiet_nil ?_
          clear this
          refine wpMix_nil ?_
          simp only [pickO, List.map_nil]
          go_wp2
          go_ret
          exact ⟨by rw [HR.out]; rfl, HB0.out⟩
        · have hb : ((c.toNat : Int) == 48) = false := by rw [beq_eq_false_iff_ne]; exact mt u48.1 h48
          have HZ3 := Lib.hid (show lzr s.data.toList (min n s.size) = lzr s.data.toList (min n m) from by
            rw [HZ2.out, if_neg h48, Nat.min_eq_right (by omega)])
          clear h48 hc
          go_wp2
          go_roundg (m + 1)
          case rel => exact ⟨m, rfl, by omega, by omega, HZ3.out, rfl⟩
          case measure => have := HG.out; omega
      · have hnB : decide ((m : Int) < n) = false := by simp; omega
        have HZ3 := Lib.hid (show lzr s.data.toList (min n s.size) = lzr s.data.toList (min n m) from by
          rw [HZ.out, Nat.min_eq_left (by omega), Nat.min_eq_left (by omega)])
        cases hb : ((c.toNat : Int) == 48) with
        | true =>
          clear hc
          go_wp2
          go_roundg (m + 1)
          case rel => exact ⟨m, rfl, by omega, by omega, HZ3.out, rfl⟩
          case measure => have := HG.out; omega
        | false =>
          clear hc
          go_wp2
          go_roundg (m + 1)
          case rel => exact ⟨m, rfl, by omega, by omega, HZ3.out, rfl⟩
          case measure => have := HG.out; omega
end Go.Proofs.Gv
