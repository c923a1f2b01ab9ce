/- The law WordOrder, walked. -/
import Derived.Test.YtlaakomeofldgaaOrd
import Derived.Test.YtlaakomeofldgaaAwk07
import Derived.OpenShut
namespace Go.Proofs.Gv
open Go Go.RowKit

@[go_sem] theorem run_max3 {P : Program} (w : World) (ts : Array TypeId) (t : TypeId) (k k' k'' : IntKind) : (Builtin.max_ ts t #[.int k 0, .int k' 0, .int k'' 0]).run P w = .ok (.int k 0) w := by
  simp [Builtin.max_, Builtin.max2]

set_option maxRecDepth 100000 in
set_option maxHeartbeats 8000000 in
theorem law_order0 (Q N K M : Nat) (m : Int) (w : World) (hQ : Q ≤ 255) (hN : N ≤ 255) (hK : Q % 16 + 1 = K) (hM : N % 10 = M) (hm : w.cell? ⟨0, 0, none⟩ = some (.int .i64 m)) (h₀ : 0 < w.heap.size) :
    Calls Try.prog 11 #[.int .u8 Q, .int .u8 N] w fun e w' => e = .returned (.bool true) ∧ Below w.heap.size w w' := by
  have hk1 : 1 ≤ K := by omega
  have hk2 : K ≤ 16 := by omega
  have hm9 : M ≤ 9 := by omega
  have hki : (Q : Int) % 16 + 1 = K := by omega
  have hmi : (N : Int) % 10 = M := by omega
  have hq0 : (0 : Int) ≤ Q := by omega
  have hq1 : (Q : Int) ≤ 255 := by omega
  have hn0 : (0 : Int) ≤ N := by omega
  have hn1 : (N : Int) ≤ 255 := by omega
  have HM := Lib.hid hm
  have HK1 := Lib.hid hk1
  clear hQ hN hK hM hm
  go_enter Try.func11, Try.ntmps11
  go_wp2
  rw [hmi]
  clear hki hmi hq0 hq1 hn0 hn1
  go_loop [7, 26] (fun v7 v26 => ∃ j c : Nat, v26 = .int .i64 j ∧ j ≤ M ∧ v7 = .int .i64 c ∧ c ≤ 300 ∧ Hid (c = K ^ j)) (fun _ v26 => M - (intOf v26).toNat)
  case atStart => exact ⟨0, 1, rfl, Nat.zero_le _, rfl, by omega, Lib.hid (by rw [Nat.pow_zero])⟩
  case round =>
    obtain ⟨j, c, rfl, hj, rfl, hc3, HC⟩ := hrel
    by_cases hlt : j < M
    · obtain ⟨P, hP⟩ : ∃ P, c * K = P := ⟨_, rfl⟩
      have hPi : (c : Int) * (K : Int) = P := by rw [← hP]; push_cast; rfl
      have hPb : P ≤ 300 * 16 := by rw [← hP]; exact Nat.mul_le_mul hc3 hk2
      have HP := Lib.hid (show P = K ^ (j + 1) by rw [Nat.pow_succ, ← HC.out, hP])
      clear hP
      by_cases hbig : 300 < P
      · go_wp2_with (go_at_call 12; refine (awake07 m _ HM.out h₀).mono ?_; rintro e w8 ⟨rfl, hb⟩)
        go_ret
        exact ⟨rfl, hb⟩
      · go_wp2
        go_round
        case rel => exact ⟨j + 1, P, by go_num, by omega, rfl, by omega, HP⟩
        case measure => simp [intOf]; omega
    · obtain rfl : j = M := by omega
      have HAll := Lib.hid (fun W => show Calls Try.prog 33 #[.int .i64 K, .int .i64 j] W (fun e w' => (∃ g cap, e = .returned (.tuple #[.slice (some ⟨g, 0, none⟩) c cap, .int .i64 0]) ∧ SRow w' g c (unS K j)) ∧ Below W.heap.size W w') from
        (All_any K j W HK1.out hk2 (by omega)).mono fun e w' h => by
          rw [HC.out]
          refine ⟨?_, h.2⟩
          rcases h.1 with ⟨_, h2⟩ | ⟨h1, _⟩
          · exact h2
          · rw [← HC.out] at h1; omega)
      have hne : ((c : Int) != c) = false := by simp
      go_wp2_with (first
        | (go_at_call 33; refine (HAll.out _).mono ?_; rintro e w1 ⟨⟨g, cap, rfl, hrow⟩, hb⟩; have HR1 := Lib.hid hrow; have HB1 := Lib.hid (bstep (Below.refl w.heap.size w) hb); clear hrow hb)
        | (go_at_call 46; refine (sorted_words HR1.out (by omega) (fun i hi => by rw [ByteArray.toList_eq, ByteArray.toList_eq]; exact (ord_step HK1.out hk2 (by omega) (by rw [← HC.out]; exact hi)).2)).mono ?_; rintro e w2 ⟨rfl, hd⟩; obtain ⟨nd, rfl⟩ := hd; have HB2 := Lib.hid (bstep HB1.out (below_drewN (Below.refl _ _) nd)); have HR2 := Lib.hid (HR1.out.next (below_drewN (Below.refl _ _) nd))))
      obtain ⟨w2, hw2⟩ : ∃ X, w1.drewN nd = X := ⟨_, rfl⟩
      rw [hw2] at HB2 HR2 ⊢
      clear hw2 HR1 HB1 HAll
      go_loopg [56] (c + 1) (fun gg v56 wr => ∃ i : Nat, v56 = .int .i64 i ∧ i ≤ c ∧ c - i < gg ∧ SRow wr g c (unS K j) ∧ Below w.heap.size w wr)
      case atStart => exact ⟨0, rfl, Nat.zero_le _, by omega, HR2.out, HB2.out⟩
      case round =>
        clear HR2 HB2
        obtain ⟨i, rfl, hi, hg, hrow, hb⟩ := hrel
        have HG := Lib.hid hg
        have HR := Lib.hid hrow
        have HB := Lib.hid hb
        clear hg hrow hb
        by_cases hlt2 : i < c
        · have hiq : i < K ^ j := by rw [← HC.out]; exact hlt2
          have hcell := HR.out.cell i hlt2
          have hzi : (mg i).size ≤ 1000000 := Nat.le_trans (size_mg (k := 2) (by omega)) (by decide)
          have hck := unS_chk (n := j) (A := i) HK1.out hk2 (by omega)
          have hsz := unS_size K j i
          have hrk := fun W => rank_unS HK1.out hk2 (by omega) hiq W
          have HST := Lib.hid (fun (h : i + 1 < c) => (ord_step HK1.out hk2 (show j ≤ 24 by omega) (by rw [← HC.out]; exact h)).1)
          have HLA := Lib.hid (fun (h : i + 1 = c) => ord_last HK1.out hk2 (show j ≤ 24 by omega) (by rw [← HC.out]; exact h))
          obtain ⟨S, hS⟩ : ∃ S, unS K j i = S := ⟨_, rfl⟩
          rw [hS] at hcell hck hsz hrk HST HLA
          have HRk := Lib.hid hrk
          have HOf := Lib.hid (fun W => ofB i W (by omega))
          have HUn := Lib.hid (fun W => unrankB HK1.out hk2 (show j ≤ 65536 by omega) hzi hiq hS W)
          have HCh := Lib.hid (fun W => wcheckB hck (by unfold maxLen; omega) W)
          have tb : eqI false (mg i) false (mg i) = true := eqI_iff.mpr ⟨rfl, rfl⟩
          have te : (S.toList == S.toList) = true := by simp
          have i0 : (0 : Int) ≤ i := by omega
          have i1 : (i : Int) < c := by omega
          have hS6 : S.size ≤ 65536 := by omega
          clear hck hrk hiq hzi hS
          by_cases hl2 : i + 1 < c
          · have HNx := Lib.hid (fun W => nextB (HST.out hl2) hS6 W)
            have hcell2 := HR.out.cell (i + 1) hl2
            obtain ⟨T, hT⟩ : ∃ T, unS K j (i + 1) = T := ⟨_, rfl⟩
            have HTT := Lib.hid hT
            rw [hT] at HNx
            clear hcell2 hT
            have t1 : (i : Int) + 1 < c := by omega
            have t2 : ((i : Int) + 1 == c) = false := by rw [beq_eq_false_iff_ne]; omega
            have t3 : (0 : Int) ≤ (i : Int) + 1 := by omega
            have t4 : ((i : Int) + 1).toNat = i + 1 := by omega
            have te2 : (T.toList == T.toList) = true := by simp
            go_upto_region 18 with (first
              | (go_at_call 40; refine (HRk.out _).mono ?_; rintro e w3 ⟨rfl, hb⟩; have HB3 := Lib.hid (bstep HB.out hb); have HR3 := Lib.hid (HR.out.next hb); clear hb hcell)
              | (go_at_call 45; refine (HOf.out _).mono ?_; rintro e w4 ⟨rfl, hb⟩; have HX4 := Lib.hid ((Bx.new w3 w3.heap.size false (mg i) rfl).below hb); have HB4 := Lib.hid (bstep (HB3.out.alloc HB3.out.size (.cells #[.bool false, .string (mg i)] 49)) hb); have HR4 := Lib.hid ((HR3.out.next ((Below.refl w3.heap.size w3).alloc (Nat.le_refl _) (.cells #[.bool false, .string (mg i)] 49))).next hb); clear hb)
              | (go_at_call 42; refine (HUn.out _).mono ?_; rintro e w5 ⟨rfl, hb⟩; have HX5 := Lib.hid (HX4.out.below hb); have HB5 := Lib.hid (bstep HB4.out hb); have HR5 := Lib.hid (HR4.out.next hb); clear hb)
              | (go_at_call 35; refine (HNx.out _).mono ?_; rintro e w6 ⟨rfl, hb⟩; have HX6 := Lib.hid (HX5.out.below hb); have HB6 := Lib.hid (bstep HB5.out hb); have HR6 := Lib.hid (HR5.out.next hb); clear hb))
            haveI := cls_some w6
            have fq0 : ∀ u : Cl w6, u.x.cell? ⟨w3.heap.size, 0, none⟩ = some (.bool false) := fun u => (HX6.out.below u.h).c0
            have fr0 : ∀ u : Cl w6, u.x.cell? ⟨w3.heap.size, 1, none⟩ = some (.string (mg i)) := fun u => (HX6.out.below u.h).c1
            refine wp_region_cls (by kernel_rfl) ?_
            iterate 14 (go_big_quiet_step (fail))
            go_big_quiet_step ((go_at_call 45; exact quiet_cls HOf.out _))
            iterate 10 (go_big_quiet_step (fail))
            go_big_quiet_step ((go_at_call 37; exact quiet_cls HCh.out _))
            iterate 2 (go_big_quiet_step (fail))
            refine wpQuiet_nil ?_
            intro w7 hw9
            have hB : Below w6.heap.size w6 w7 := by obtain ⟨u, rfl⟩ := hw9; exact u.h
            clear hw9 fq0 fr0
            have HB7 := Lib.hid (bstep HB6.out hB)
            have HR7 := Lib.hid (HR6.out.next hB)
            clear hB
            have hc7 := HR7.out.cell (i + 1) hl2
            rw [HTT.out] at hc7
            go_wp2
            go_roundg (c - i)
            case rel => exact ⟨i + 1, by go_num, by omega, by omega, HR7.out, HB7.out⟩
            case measure => exact HG.out
          · have he : i + 1 = c := by omega
            have HNx := Lib.hid (fun W => nextB (HLA.out he) hS6 W)
            obtain ⟨T, hT⟩ : ∃ T : ByteArray, (⟨(List.replicate (j + 1) 48).toArray⟩ : ByteArray) = T := ⟨_, rfl⟩
            have HRp := Lib.hid (fun W => show Calls Try.prog 30 #[.string ⟨#[48]⟩, .int .i64 ((j : Int) + 1)] W (fun e w' => e = .returned (.string T) ∧ Below W.heap.size W w') from by
              have := Try.strings_Repeat ⟨#[48]⟩ (j + 1 : Nat) W (by omega) (by show 1 * (j + 1) ≤ _; omega)
              rw [show (⟨#[48]⟩ : ByteArray).data.toList = [48] from rfl, rep48, hT] at this
              exact this)
            rw [hT] at HNx
            clear hT
            have t1 : ¬ (i : Int) + 1 < c := by omega
            have t2 : ((i : Int) + 1 == c) = true := by rw [beq_iff_eq]; omega
            have te2 : (T.toList == T.toList) = true := by simp
            go_upto_region 18 with (first
              | (go_at_call 40; refine (HRk.out _).mono ?_; rintro e w3 ⟨rfl, hb⟩; have HB3 := Lib.hid (bstep HB.out hb); have HR3 := Lib.hid (HR.out.next hb); clear hb hcell)
              | (go_at_call 45; refine (HOf.out _).mono ?_; rintro e w4 ⟨rfl, hb⟩; have HX4 := Lib.hid ((Bx.new w3 w3.heap.size false (mg i) rfl).below hb); have HB4 := Lib.hid (bstep (HB3.out.alloc HB3.out.size (.cells #[.bool false, .string (mg i)] 49)) hb); have HR4 := Lib.hid ((HR3.out.next ((Below.refl w3.heap.size w3).alloc (Nat.le_refl _) (.cells #[.bool false, .string (mg i)] 49))).next hb); clear hb)
              | (go_at_call 42; refine (HUn.out _).mono ?_; rintro e w5 ⟨rfl, hb⟩; have HX5 := Lib.hid (HX4.out.below hb); have HB5 := Lib.hid (bstep HB4.out hb); have HR5 := Lib.hid (HR4.out.next hb); clear hb)
              | (go_at_call 35; refine (HNx.out _).mono ?_; rintro e w6 ⟨rfl, hb⟩; have HX6 := Lib.hid (HX5.out.below hb); have HB6 := Lib.hid (bstep HB5.out hb); have HR6 := Lib.hid (HR5.out.next hb); clear hb))
            haveI := cls_some w6
            have fq0 : ∀ u : Cl w6, u.x.cell? ⟨w3.heap.size, 0, none⟩ = some (.bool false) := fun u => (HX6.out.below u.h).c0
            have fr0 : ∀ u : Cl w6, u.x.cell? ⟨w3.heap.size, 1, none⟩ = some (.string (mg i)) := fun u => (HX6.out.below u.h).c1
            refine wp_region_cls (by kernel_rfl) ?_
            iterate 14 (go_big_quiet_step (fail))
            go_big_quiet_step ((go_at_call 45; exact quiet_cls HOf.out _))
            iterate 10 (go_big_quiet_step (fail))
            go_big_quiet_step ((go_at_call 37; exact quiet_cls HCh.out _))
            iterate 2 (go_big_quiet_step (fail))
            refine wpQuiet_nil ?_
            intro w7 hw9
            have hB : Below w6.heap.size w6 w7 := by obtain ⟨u, rfl⟩ := hw9; exact u.h
            clear hw9 fq0 fr0
            have HB7 := Lib.hid (bstep HB6.out hB)
            have HR7 := Lib.hid (HR6.out.next hB)
            clear hB
            go_wp2_with (go_at_call 30; refine (HRp.out _).mono ?_; rintro e w8 ⟨rfl, hb⟩; have HB8 := Lib.hid (bstep HB7.out hb); have HR8 := Lib.hid (HR7.out.next hb); clear hb)
            go_roundg (c - i)
            case rel => exact ⟨i + 1, by go_num, by omega, by omega, HR8.out, HB8.out⟩
            case measure => exact HG.out
        · obtain rfl : i = c := by omega
          have hzi : (mg i).size ≤ 1000000 := Nat.le_trans (size_mg (k := 2) (by omega)) (by decide)
          have HOf := Lib.hid (fun W => ofB i W (by omega))
          have HUn := Lib.hid (fun W => unrankE HK1.out hk2 (show j ≤ 65536 by omega) hzi (show ¬ i < K ^ j by rw [← HC.out]; omega) W)
          clear hzi
          go_wp2_with (first
            | (go_at_call 45; refine (HOf.out _).mono ?_; rintro e w3 ⟨rfl, hb⟩; have HB3 := Lib.hid (bstep HB.out hb); clear hb)
            | (go_at_call 42; refine (HUn.out _).mono ?_; rintro e w4 ⟨rfl, hb⟩; have HB4 := Lib.hid (bstep HB3.out hb); clear hb)
            | (go_at_call 12; refine (awake07 m _ ((HB4.out.cell (p := ⟨0, 0, none⟩) h₀).trans HM.out) (Nat.lt_of_lt_of_le h₀ HB4.out.size)).mono ?_; rintro e w5 ⟨rfl, hb⟩; have HB5 := Lib.hid (bstep HB4.out hb); clear hb))
          go_ret
          exact ⟨rfl, HB5.out⟩

/-- **The law WordOrder.** -/
theorem law_order (q n : Int) (m : Int) (w : World) (hq : (Lit.int .u8 q).wf = true) (hn : (Lit.int .u8 n).wf = true) (hm : w.cell? ⟨0, 0, none⟩ = some (.int .i64 m)) (h₀ : 0 < w.heap.size) :
    Calls Try.prog 11 #[.int .u8 q, .int .u8 n] w fun e w' => e = .returned (.bool true) ∧ Below w.heap.size w w' := by
  have h1 := bounds_u8 hq
  have h2 := bounds_u8 hn
  obtain ⟨Q, rfl⟩ : ∃ Q : Nat, q = Q := ⟨q.toNat, by omega⟩
  obtain ⟨N, rfl⟩ : ∃ N : Nat, n = N := ⟨n.toNat, by omega⟩
  exact law_order0 Q N _ _ m w (by omega) (by omega) rfl rfl hm h₀
end Go.Proofs.Gv
