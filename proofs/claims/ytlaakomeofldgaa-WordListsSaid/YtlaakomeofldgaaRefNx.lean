/- grooveref07: Zeros, Next. -/
import Derived.Test.YtlaakomeofldgaaRefW
import Derived.Test.YtlaakomeofldgaaRefRev
import Derived.Test.YtlaakomeofldgaaWds
namespace Go.Proofs.Gv
open Go Go.RowKit

theorem at'_append {s t : ByteArray} {j : Nat} : at' (s ++ t) j = if j < s.size then at' s j else at' t (j - s.size) := by
  unfold at'
  have hl : s.data.toList.length = s.size := by simp
  rw [ByteArray.data_append, Array.toList_append, List.getD_eq_getElem?_getD]
  by_cases h : j < s.size
  · rw [if_pos h, List.getElem?_append_left (by omega), List.getD_eq_getElem?_getD]
  · rw [if_neg h, List.getElem?_append_right (by omega), hl, List.getD_eq_getElem?_getD]
theorem at'_take {s : ByteArray} {k j : Nat} (hj : j < k) (hk : k ≤ s.size) : at' (s.extract 0 k) j = at' s j := by
  unfold at'
  rw [ByteArray.data_extract, Array.toList_extract, List.extract_eq_take_drop, List.getD_eq_getElem?_getD, List.getD_eq_getElem?_getD]
  simp [hj]
theorem at'_zeros {n j : Nat} (hj : j < n) : at' (⟨(List.replicate n 48).toArray⟩ : ByteArray) j = 48 := by
  unfold at'
  simp [List.getD_eq_getElem?_getD, hj]
theorem nxAt_cat {s : ByteArray} {k : Nat} (hk : k < s.size) :
    s.extract 0 k ++ ⟨#[ltr ((dg (at' s k)).toNat + 1)]⟩ ++ ⟨(List.replicate (s.size - 1 - k) 48).toArray⟩ = nxAt s k := by
  have h0 : (s.extract 0 k).size = k := by rw [ByteArray.size_extract]; omega
  have h1 : (s.extract 0 k ++ (⟨#[ltr ((dg (at' s k)).toNat + 1)]⟩ : ByteArray)).size = k + 1 := by rw [ByteArray.size_append, h0]; rfl
  have hs : (s.extract 0 k ++ ⟨#[ltr ((dg (at' s k)).toNat + 1)]⟩ ++ (⟨(List.replicate (s.size - 1 - k) 48).toArray⟩ : ByteArray)).size = s.size := by
    rw [ByteArray.size_append, h1, zeros_size]; omega
  refine ba_at_ext (by rw [hs, nxAt_size]) fun j hj => ?_
  rw [hs] at hj
  rw [nxAt_at hj, at'_append, h1]
  by_cases e : j < k + 1
  · rw [if_pos e, at'_append, h0]
    by_cases e2 : j < k
    · rw [if_pos e2, at'_take e2 (by omega), if_neg (by omega), if_pos e]
    · obtain rfl : j = k := by omega
      rw [if_neg e2, if_pos rfl, Nat.sub_self]; rfl
  · rw [if_neg e, at'_zeros (by omega), if_neg (by omega), if_neg (by omega)]

set_option maxRecDepth 100000 in
set_option maxHeartbeats 1600000 in
theorem rzeros_any (n : Nat) (w : World) (hn : n ≤ 100000) :
    Calls Try.prog 62 #[.int .i64 n] w fun e w' => e = .returned (.string ⟨(List.replicate n 48).toArray⟩) ∧ Below w.heap.size w w' := by
  obtain ⟨i0, hi, hz0, hz1, hz2⟩ := info_parts Try.info5r
  obtain ⟨Z, hZ⟩ : ∃ Z : ByteArray, (⟨(List.replicate n 48).toArray⟩ : ByteArray) = Z := ⟨_, rfl⟩
  have HZ := Lib.hid hZ
  rw [hZ]
  clear hZ
  go_enter Try.func62, Try.ntmps62
  go_wp2
  have h0 := World.ownsRow_made (base := w.heap.size) (e := 5) (size := 1) w #[] 0 (Nat.le_refl _) (by unfold maxLen; omega) (by rfl)
  go_loopg [3, 4] (n + 1) (fun g v i wr => ∃ k : Nat, i = .int .i64 k ∧ k ≤ n ∧ n + 1 - k ≤ g ∧ wr.ownsRow w.heap.size 5 1 v k (u8L (List.replicate k 48)) ∧ Below w.heap.size w wr)
  case atStart => exact ⟨0, rfl, Nat.zero_le _, by omega, h0, (Below.refl _ _).alloc (Nat.le_refl _) _⟩
  case round =>
    obtain ⟨k, rfl, hk, hg, hown, hb⟩ := hrel
    have HB := Lib.hid hb
    clear h0 hb
    by_cases hlt : k < n
    · have HT := Lib.hid (show u8L (List.replicate (k + 1) 48) = u8L (List.replicate k 48) ++ [.int .u8 48] by rw [List.replicate_succ', u8L_snoc]; rfl)
      obtain ⟨L, hL⟩ : ∃ L, u8L (List.replicate k 48) = L := ⟨_, rfl⟩
      rw [hL] at hown HT
      clear hL
      go_wp2_with (at_builtin; refine wpList_append_own _ rfl _ _ 63 rfl w.heap.size 5 i0 (.int .u8 0) 1 1 Try.underlying63 hi hz0 hz1 hz2 rfl (by decide) _ _ _ rfl (hown.alloc _) ⟨wr.heap.size, 0, none⟩ 1 1 [.int .u8 48] rfl rfl (cell_one_new _ _ _) (by simp [Value.oneCell']) (by unfold maxLen; omega) (by omega) (by have := HB.out.size; simp; omega) ?_; intro v' w1 hown' hgrow _)
      go_roundg (n - k)
      case rel => exact ⟨k + 1, by go_num, by omega, by omega, by rw [HT.out]; exact hown', below_append HB.out HB.out.size hown hgrow⟩
      case measure => omega
    · obtain rfl : k = n := by omega
      have hcv := conv_row (W := wr) (l := List.replicate k 48) (B := w.heap.size) (v := u3) (by rw [List.length_replicate]; exact hown)
      rw [HZ.out] at hcv
      clear hown
      go_wp2
      go_ret
      exact ⟨rfl, HB.out⟩

set_option maxRecDepth 100000 in
set_option maxHeartbeats 1600000 in
theorem rNext_any (q : Int) (s : ByteArray) (w : World) (hs : s.size ≤ 9223372036854775807) :
    Calls Try.prog 36 #[.int .i64 q, .string s] w (RetNext q s w) := by
  by_cases hc : chk q s = 0
  · obtain ⟨h1, h2, h3, hw⟩ := chk_ok hc
    obtain ⟨n, rfl⟩ : ∃ n : Nat, q = n := ⟨q.toNat, by omega⟩
    have HW := Lib.hid (show ∀ j, j < s.size → okL n (at' s j) = true from okW_iff.mp hw)
    have HN := Lib.hid (show nextS n s = match nxI n s with
      | some i => (nxAt s i, 0)
      | none => if s.size = 65536 then (⟨#[]⟩, 4) else (⟨(List.replicate (s.size + 1) 48).toArray⟩, 0) by unfold nextS; rw [if_pos hc]; rfl)
    have HC := Lib.hid (fun W => (rCheckW_any n s W hs).mono fun e w' h => (⟨by rw [h.1, hc], h.2⟩ : e = .returned (.int .i64 0) ∧ W = w'))
    clear hw hc
    go_enter Try.func36, Try.ntmps36
    go_wp2_with (go_at_call 38; refine (HC.out _).mono ?_; rintro e w' ⟨rfl, rfl⟩)
    go_loop [7] (fun i => ∃ (z : Int) (k : Nat), i = .int .i64 z ∧ z + 1 = k ∧ k ≤ s.size ∧ Hid (∀ j, k ≤ j → j < s.size → ¬ dg (at' s j) + 1 < n)) (fun i => (intOf i + 1).toNat)
    case atStart => exact ⟨_, s.size, rfl, by omega, Nat.le_refl _, Lib.hid (fun j h1 h2 => absurd h2 (by omega))⟩
    case round =>
      obtain ⟨z, k, rfl, hz, hk, HNO⟩ := hrel
      rcases k with _ | k
      · obtain rfl : z = -1 := by omega
        clear hz
        have HL := Lib.hid (nxI_none (q := n) (s := s) (fun j hj => HNO.out j (by omega) hj))
        by_cases h6 : s.size = 65536
        · have h6' : ((s.size : Int) == 65536) = true := by rw [h6]; rfl
          have H6 := Lib.hid h6
          clear h6
          go_wp2
          go_ret2
          refine ⟨?_, Below.refl _ _⟩
          rw [HN.out, HL.out]
          simp only [H6.out, if_true]
          rfl
        · have h6' : ((s.size : Int) == 65536) = false := by rw [beq_eq_false_iff_ne]; omega
          have H6 := Lib.hid h6
          have HZ := Lib.hid (fun W => show Calls Try.prog 62 #[.int .i64 ((s.size : Int) + 1)] W (fun e w' => e = .returned (.string ⟨(List.replicate (s.size + 1) 48).toArray⟩) ∧ Below W.heap.size W w') from rzeros_any (s.size + 1) W (by omega))
          clear h6
          go_wp2_with (go_at_call 62; refine (HZ.out _).mono ?_; rintro e w' ⟨rfl, hb⟩)
          go_ret2
          refine ⟨?_, hb⟩
          rw [HN.out, HL.out]
          simp only [H6.out, if_false]
          rfl
      · obtain rfl : z = k := by omega
        clear hz
        have hki : (k : Int) < s.size := by omega
        have hk0 : (0 : Int) ≤ k := by omega
        have hx : (s[k]'(by omega)) = at' s k := at'_eq (by omega)
        obtain ⟨d, hd⟩ : ∃ d : Nat, dg (at' s k) = d := ⟨(dg (at' s k)).toNat, by
          have := HW.out k (by omega)
          unfold okL at this
          simp at this
          omega⟩
        have hd16 := dg_lt (at' s k)
        rw [hd] at hd16
        have HG := Lib.hid (fun W => (rdigit_any (at' s k) W).mono fun e w' h => (⟨by rw [h.1, hd], h.2⟩ : e = .returned (.int .i64 d) ∧ W = w'))
        have HD := Lib.hid hd
        have hcat := nxAt_cat (s := s) (k := k) (by omega)
        rw [hd, Int.toNat_natCast, List.toArray_replicate] at hcat
        have HCAT := Lib.hid hcat
        clear hcat
        clear hd
        by_cases hlt : (d : Int) + 1 < n
        · have HS := Lib.hid (show nxI n s = some k from nxI_some (by omega) (by rw [HD.out]; exact hlt) (fun j a b => by have := HNO.out j (by omega) b; omega))
          have hlx := ltr_ext (d + 1) (by omega)
          have HZ := Lib.hid (fun W => show Calls Try.prog 62 #[.int .i64 ((s.size : Int) - 1 - k)] W (fun e w' => e = .returned (.string ⟨(List.replicate (s.size - 1 - k) 48).toArray⟩) ∧ Below W.heap.size W w') from by
            have := rzeros_any (s.size - 1 - k) W (by omega)
            rwa [show ((s.size - 1 - k : Nat) : Int) = (s.size : Int) - 1 - k by omega] at this)
          have hsz1 : s.size ≤ 65536 := h3
          go_wp2_with (go_at_call 61; refine (HG.out _).mono ?_; rintro e w' ⟨rfl, rfl⟩)
          haveI := cls_some w
          refine wp_region_cls (by kernel_rfl) ?_
          repeat (first | go_big_quiet_step (fail) | go_big_quiet_step ((go_at_call 62; exact quiet_cls HZ.out _)))
          refine wpQuiet_nil ?_
          intro w7 hw9
          have hB : Below w.heap.size w w7 := by obtain ⟨u, rfl⟩ := hw9; exact u.h
          clear hw9
          go_wp2
          go_ret2
          refine ⟨?_, hB⟩
          rw [HN.out, HS.out]
          exact congrArg (fun x => Ending.returned (.tuple #[.string x, .int .i64 0])) HCAT.out
        · skip
          go_wp2_with (go_at_call 61; refine (HG.out _).mono ?_; rintro e w' ⟨rfl, rfl⟩)
          go_round
          case rel => exact ⟨_, k, rfl, by omega, by omega, Lib.hid (fun j h1 h2 => by
            by_cases e : j = k
            · subst e; rw [HD.out]; omega
            · have := HNO.out j (by omega) h2; omega)⟩
          case measure => simp [intOf]
  · have HN := Lib.hid (show nextS q s = (⟨#[]⟩, chk q s) by unfold nextS; rw [if_neg hc])
    have hc0 : (chk q s != 0) = true := by rw [bne_iff_ne]; exact hc
    go_enter Try.func36, Try.ntmps36
    go_wp2_with (go_at_call 38; refine (rCheckW_any _ _ _ hs).mono ?_; rintro e w' ⟨rfl, rfl⟩)
    go_ret2
    refine ⟨?_, Below.refl _ _⟩
    rw [HN.out]; rfl
end Go.Proofs.Gv
