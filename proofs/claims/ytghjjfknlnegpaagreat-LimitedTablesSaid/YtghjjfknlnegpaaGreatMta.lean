/- grooveref39.table. -/
import Derived.Test.YtghjjfknlnegpaaGreatMchP
set_option linter.unusedSimpArgs false
set_option linter.unusedVariables false
namespace Go.Proofs.Gv
open Go Go.RowKit Go.Maps

/-- What table answers. -/
def RtQ (Ws : List Nat) (m : Nat) (w : World) (e : Ending) (w' : World) : Prop := ∃ (T : Nat) (gs : Nat → Nat), e = .returned (.slice (some ⟨T, 0, none⟩) (m + 1) (m + 1)) ∧
  (∀ j, j ≤ m → w'.cell? ⟨T, j, none⟩ = some (.slice (some ⟨gs j, 0, none⟩) ((Ws.length + 1) * (Ws.length + 1)) ((Ws.length + 1) * (Ws.length + 1))) ∧ RowT w' (gs j) (owL Ws) Ws.length (m - j)) ∧ Below w.heap.size w w'
theorem RowT.set9 {W : World} {g n r p o : Nat} {O : List Nat} {v : Value} (h : RowT W g O n r) (hne : g ≠ p) : RowT (W.setCell ⟨p, o, none⟩ v) g O n r := fun k i hk hi => by
  obtain ⟨c0, c1⟩ := h k i hk hi
  exact ⟨(World.cell?_setCell_other _ _ _ _ (fun e => hne (congrArg Addr.block e).symm)).trans c0, (World.cell?_setCell_other _ _ _ _ (fun e => hne (congrArg Addr.block e).symm)).trans c1⟩
theorem SumT.set9 {W : World} {g n p o : Nat} {O : List Nat} {v : Value} (h : SumT W g O n) (hne : g ≠ p) : SumT (W.setCell ⟨p, o, none⟩ v) g O n := fun i hi => by
  obtain ⟨c0, c1⟩ := h i hi
  exact ⟨(World.cell?_setCell_other _ _ _ _ (fun e => hne (congrArg Addr.block e).symm)).trans c0, (World.cell?_setCell_other _ _ _ _ (fun e => hne (congrArg Addr.block e).symm)).trans c1⟩
/-- The best of what has been tried. -/
def bsV (o : Option Nat) : List Value := [.bool (oB o), .string (oS o)]
set_option maxRecDepth 100000 in
set_option maxHeartbeats 16000000 in
theorem rtable_any (A : Addr) (cap : Nat) (Ws : List Nat) (m : Nat) (h1 : 1 ≤ Ws.length) (h12 : Ws.length ≤ 12) (hm : m ≤ 64) (hz : ∀ z ∈ Ws, z < 2 ^ 64) (w : World) (hS : Sl w (some A) (VL Ws)) :
    Calls Tryz.prog 28 #[.slice (some A) Ws.length cap, .int .i64 m] w (RtQ Ws m w) := by
  have HSU := Lib.hid (rsums_any A cap Ws h1 h12 hz w hS)
  have hOl := owL_len Ws
  have hOS : (owL Ws).sum < 2 ^ 74 := sum_lt (N := 64) (fun z hz2 => by
    obtain ⟨o, ho, rfl⟩ := List.mem_map.1 hz2
    have := ordL_lt ho
    exact hz _ (by rw [List.getD_eq_getElem?_getD, List.getElem?_eq_getElem this]; exact List.getElem_mem _)) (by rw [hOl]; omega)
  unfold RtQ
  obtain ⟨O, hO⟩ : ∃ O, owL Ws = O := ⟨_, rfl⟩
  obtain ⟨n, hn⟩ : ∃ n, Ws.length = n := ⟨_, rfl⟩
  rw [hO] at HSU hOl hOS ⊢
  rw [hn] at h1 h12 HSU hOl ⊢
  have HOS4 := Lib.hid hOS
  have HOS := Lib.hid (show O.sum < 2 ^ 90 from Nat.lt_of_lt_of_le hOS (Nat.pow_le_pow_right (by decide) (by decide)))
  have HTX := Lib.hid (show ∀ r k i x, r ≤ 64 → tb O n r k i = some x → x < 2 ^ 90 from fun r k i x hr h => by
    have h2 := tb_le O n r k i x h
    have h3 : r * O.sum ≤ 64 * 2 ^ 74 := Nat.mul_le_mul hr (Nat.le_of_lt hOS)
    have h4 : (64 : Nat) * 2 ^ 74 < 2 ^ 90 := by decide
    omega)
  obtain ⟨n1, hn1⟩ : ∃ x, n + 1 = x := ⟨_, rfl⟩
  obtain ⟨m1, hm1⟩ : ∃ x, m + 1 = x := ⟨_, rfl⟩
  obtain ⟨N, hN⟩ : ∃ N, (n + 1) * (n + 1) = N := ⟨_, rfl⟩
  have HN1 := Lib.hid hn1
  have HM1 := Lib.hid hm1
  have HNS := Lib.hid hN
  have hn1I : (n : Int) + 1 = (n1 : Int) := by omega
  have hm1I : (m : Int) + 1 = (m1 : Int) := by omega
  have hNI : (n1 : Int) * (n1 : Int) = (N : Int) := by rw [← hN, ← hn1]; simp
  have hN169 : N ≤ 169 := by rw [← hN]; exact Nat.mul_le_mul (show n + 1 ≤ 13 by omega) (show n + 1 ≤ 13 by omega)
  have hmk1 := mkIss9 m1 (by omega)
  have hmk2 := mkIs9 N (by omega)
  rw [hm1, hN]
  clear hS hz hOS hn1 hm1 hN hOl hO hn
  go_enter Tryz.func28, Tryz.ntmps28
  go_wp2_with fail
  refine HSU.out.mono ?_
  rintro e w1 ⟨S, rfl, hsu, hSw, hb⟩
  rw [HN1.out] at ⊢
  have hal : Below w1.heap.size w1 (w1.alloc (.cells (madeCells #[.slice none 0 0] m1) 22)) := (Below.refl _ _).alloc (Nat.le_refl _) _
  have HS1 := Lib.hid (hsu.below hal)
  have HB1 := Lib.hid (bstep hb hal)
  have HT1 := Lib.hid (show BC (w1.alloc (.cells (madeCells #[.slice none 0 0] m1) 22)) w1.heap.size (rowsV9 m1 N (fun _ => 0) m1) from by
    have h := BC.new w1 w1.heap.size (madeCells #[.slice none 0 0] m1) 22 rfl
    rw [rowsV9_start m1 N (fun _ => 0)] at h
    exact h)
  have HSL := Lib.hid (show S < w1.heap.size ∧ w.heap.size ≤ w1.heap.size from ⟨World.block_lt_of_cell? _ ⟨S, 0 * 2, none⟩ (hsu 0 (Nat.zero_le _)).1, hb.size⟩)
  clear hsu hSw hb hal HSU
  go_wp2_with fail
  clear hmk1
  obtain ⟨T, hT⟩ : ∃ b, w1.heap.size = b := ⟨_, rfl⟩
  rw [hT] at HT1 HSL ⊢
  obtain ⟨Y1, hY1⟩ : ∃ X, w1.alloc (.cells (madeCells #[.slice none 0 0] m1) 22) = X := ⟨_, rfl⟩
  have HYS := Lib.hid (show Y1.heap.size = T + 1 from by rw [← hY1]; simp [hT])
  rw [hY1] at HS1 HB1 HT1 ⊢
  clear hY1 hT
  go_loopg [8] (m + 2) (fun gg v8 wr => ∃ (jj : Nat) (gs : Nat → Nat), v8 = .int .i64 ((jj : Int) - 1) ∧ jj ≤ m1 ∧ jj < gg ∧ BC wr T (rowsV9 m1 N gs jj) ∧ (∀ j, jj ≤ j → j ≤ m → RowT wr (gs j) O n (m - j) ∧ T < gs j) ∧ SumT wr S O n ∧ Below w.heap.size w wr ∧ T < wr.heap.size)
  case atStart => exact ⟨m1, fun _ => 0, by rw [show ((m1 : Int) - 1) = (m : Int) by omega], Nat.le_refl _, by omega, HT1.out, fun j hj hj2 => by omega, HS1.out, HB1.out, by have := HYS.out; omega⟩
  case round =>
    obtain ⟨jj, gs, rfl, hjj, hjg, hjt, hjr, hjs, hjb, hjl⟩ := hrel
    have HJG := Lib.hid hjg
    have HJT := Lib.hid hjt
    have HJR := Lib.hid hjr
    have HJS := Lib.hid hjs
    have HJB := Lib.hid hjb
    have HJL := Lib.hid hjl
    clear hjg hjt hjr hjs hjb hjl HT1 HS1 HB1
    rcases Nat.eq_zero_or_pos jj with h0 | h0
    · subst h0
      have hB : decide ((0 : Int) ≤ ((0 : Nat) : Int) - 1) = false := by decide
      go_wp2_with fail
      go_ret
      refine ⟨T, gs, rfl, fun j hj => ⟨?_, (HJR.out j (Nat.zero_le _) hj).1⟩, HJB.out⟩
      have h := rowsV9_at (m1 := m1) (N := N) (gs := gs) (jj := 0) (j := j) (by have := HM1.out; omega)
      rw [if_pos (Nat.zero_le _)] at h
      exact HJT.out.at j _ h
    · obtain ⟨j, rfl⟩ : ∃ j, jj = j + 1 := ⟨jj - 1, by omega⟩
      have hjm : j ≤ m := by have := HM1.out; omega
      have hj0I : (0 : Int) ≤ (j : Int) := by omega
      have hjmI : (j : Int) ≤ (m : Int) := by omega
      have hjm1I : (j : Int) < (m1 : Int) := by omega
      have e1 : (((j + 1 : Nat) : Int) - 1) = (j : Int) := by omega
      rw [e1]
      obtain ⟨V, rfl⟩ : ∃ X, X = wr := ⟨_, rfl⟩
      obtain ⟨r, hr⟩ : ∃ r, m - j = r := ⟨_, rfl⟩
      have HR := Lib.hid hr
      have hbg := BC.new V V.heap.size (madeCells #[.bool false, .string ⟨#[]⟩] (N * 2)) 29 rfl
      have HG0 := Lib.hid (show BC (V.alloc (.cells (madeCells #[.bool false, .string ⟨#[]⟩] (N * 2)) 29)) V.heap.size (inV (rwF N (tbF O n r 0))) from by
        rw [madeF, tbF_start O n r N] at hbg; exact hbg)
      have HV0 := Lib.hid (show Below V.heap.size V (V.alloc (.cells (madeCells #[.bool false, .string ⟨#[]⟩] (N * 2)) 29)) from (Below.refl _ _).alloc (Nat.le_refl _) _)
      clear hbg hr e1
      go_wp2_with fail
      obtain ⟨g, hg⟩ : ∃ b, V.heap.size = b := ⟨_, rfl⟩
      have HGV := Lib.hid hg
      rw [hg] at HG0 ⊢
      obtain ⟨X4, hX4⟩ : ∃ X, V.alloc (.cells (madeCells #[.bool false, .string ⟨#[]⟩] (N * 2)) 29) = X := ⟨_, rfl⟩
      rw [hX4] at HG0 HV0 ⊢
      clear hX4 hg
      go_loopg [10] (n1 + 1) (fun gg v10 wr => ∃ k : Nat, v10 = .int .i64 (k : Int) ∧ k ≤ n1 ∧ n1 - k < gg ∧ BC wr g (inV (rwF N (tbF O n r (k * (n + 1))))) ∧ Below V.heap.size V wr)
      case atStart => exact ⟨0, rfl, Nat.zero_le _, by omega, by rw [Nat.zero_mul]; exact HG0.out, HV0.out⟩
      case round =>
        obtain ⟨k, rfl, hk, hkg, hkb, hkv⟩ := hrel
        have HKG := Lib.hid hkg
        have HKB := Lib.hid hkb
        have HKV := Lib.hid hkv
        clear hkg hkb hkv HG0 HV0
        by_cases hkn : k ≤ n
        · have hknI : (k : Int) ≤ (n : Int) := by omega
          obtain ⟨kn, hkne⟩ : ∃ x, k * (n + 1) = x := ⟨_, rfl⟩
          have hknE : (k : Int) * (n1 : Int) = (kn : Int) := by rw [← hkne, ← HN1.out]; simp
          have hkn156 : kn ≤ 156 := by rw [← hkne]; exact Nat.mul_le_mul (show k ≤ 12 by omega) (show n + 1 ≤ 13 by omega)
          have HKN := Lib.hid hkne
          rw [hkne] at HKB
          clear hkne
          go_wp2_with fail
          go_loopg [11] (n + 1) (fun gg v11 wr => ∃ i : Nat, v11 = .int .i64 (i : Int) ∧ i ≤ n ∧ n - i < gg ∧ BC wr g (inV (rwF N (tbF O n r (kn + i)))) ∧ Below V.heap.size V wr)
          case atStart => exact ⟨0, rfl, Nat.zero_le _, by omega, HKB.out, HKV.out⟩
          case round =>
            obtain ⟨i, rfl, hi, hig, hib, hiv⟩ := hrel
            have HIG := Lib.hid hig
            have HIB := Lib.hid hib
            have HIV := Lib.hid hiv
            clear hig hib hiv HKB HKV
            by_cases hin : i < n
            · have hinI : (i : Int) < (n : Int) := by omega
              obtain ⟨ni, hni⟩ : ∃ x, n - i = x := ⟨_, rfl⟩
              have hniI : (n : Int) - (i : Int) = (ni : Int) := by omega
              have hni12 : ni ≤ 12 := by omega
              obtain ⟨q, hq⟩ : ∃ x, kn + i = x := ⟨_, rfl⟩
              have hqI : (kn : Int) + (i : Int) = (q : Int) := by omega
              have hqN : q < N := by
                have := plc_le (n := n) (k := k) (i := i) hkn hi
                rw [HKN.out, HNS.out, hq] at this
                exact this
              have hqNI : (q : Int) < (N : Int) := by omega
              have HQ := Lib.hid hq
              have HNI := Lib.hid hni
              have HNO := Lib.hid (fun X => rnone39_any X)
              obtain ⟨Wi, rfl⟩ : ∃ X, X = wr := ⟨_, rfl⟩
              clear hq hni
              go_wp2_with fail
              refine (HNO.out _).mono ?_
              rintro e w3 ⟨rfl, hb3⟩
              have hal : Below w3.heap.size w3 (w3.alloc (.cells #[.bool true, .string (mg 1)] 29)) := (Below.refl _ _).alloc (Nat.le_refl _) _
              have HG4 := Lib.hid ((HIB.out.below hb3).below hal)
              have HV4 := Lib.hid (bstep (bstep HIV.out hb3) hal)
              have HX4 := Lib.hid (show BC (w3.alloc (.cells #[.bool true, .string (mg 1)] 29)) w3.heap.size (bsV none) from BC.new w3 w3.heap.size #[.bool true, .string (mg 1)] 29 rfl)
              have HBG := Lib.hid (show g < w3.heap.size ∧ V.heap.size ≤ w3.heap.size from ⟨(HIB.out.below hb3).lt, (bstep HIV.out hb3).size⟩)
              clear hb3 hal
              unfold oV oB oS
              go_upto_region 15 with fail
              obtain ⟨b12, hb12⟩ : ∃ b, w3.heap.size = b := ⟨_, rfl⟩
              rw [hb12] at HX4 HBG ⊢
              obtain ⟨X5, hX5⟩ : ∃ X, w3.alloc (.cells #[.bool true, .string (mg 1)] 29) = X := ⟨_, rfl⟩
              rw [hX5] at HG4 HV4 HX4 ⊢
              clear hX5 hb12
              rw [show kn + i = q from HQ.out] at HG4
              by_cases hjm2 : j = m
              · obtain rfl : r = 0 := by have := HR.out; omega
                have hjB : decide ((j : Int) < (m : Int)) = false := by simp; omega
                have hjE : ((j : Int) == (m : Int)) = true := by simp; omega
                have hjE2 : (j : Int) = (m : Int) := by omega
                by_cases hkni : ni ≤ k
                · have hkniI : (ni : Int) ≤ (k : Int) := by omega
                  have y0 := HX4.out.at 0 _ rfl
                  have y1 := HX4.out.at 1 _ rfl
                  have w0 := HX4.out.z 0 (by simp [bsV])
                  have w1' := HX4.out.z 1 (by simp [bsV])
                  have HX6 := Lib.hid (show BC ((X5.setCell ⟨b12, 0, none⟩ (.bool false)).setCell ⟨b12, 1, none⟩ (.string ⟨#[]⟩)) b12 (bsV (some 0)) from by
                    have h := HX4.out.set2 0 1 (.bool false) (.string ⟨#[]⟩) (by simp [bsV]) (by simp [bsV])
                    show BC _ _ [.bool false, .string (mg 0)]
                    rw [mg_zero]; exact h)
                  have HG6 := Lib.hid ((HG4.out.other 0 (.bool false) (c := b12) (by have := HBG.out.1; omega)).other 1 (.string ⟨#[]⟩) (c := b12) (by have := HBG.out.1; omega))
                  have HV6 := Lib.hid ((HV4.out.setCell (p := ⟨b12, 0, none⟩) HBG.out.2 (.bool false)).setCell (p := ⟨b12, 1, none⟩) HBG.out.2 (.string ⟨#[]⟩))
                  go_wp2_with fail
                  clear y0 y1 w0 w1'
                  obtain ⟨X6, hX6⟩ : ∃ X, (X5.setCell ⟨b12, 0, none⟩ (.bool false)).setCell ⟨b12, 1, none⟩ (.string ⟨#[]⟩) = X := ⟨_, rfl⟩
                  rw [hX6] at HX6 HG6 HV6 ⊢
                  clear hX6 HX4 HG4 HV4
                  go_loopg [13] 1 (fun gg v13 wr => v13 = .int .i64 0 ∧ BC wr b12 (bsV (some 0)) ∧ BC wr g (inV (rwF N (tbF O n 0 q))) ∧ Below V.heap.size V wr)
                  case atStart => exact ⟨rfl, HX6.out, HG6.out, HV6.out⟩
                  case round =>
                    obtain ⟨rfl, hx7, hg7, hv7⟩ := hrel
                    have HX7 := Lib.hid hx7
                    have HG7 := Lib.hid hg7
                    have HV7 := Lib.hid hv7
                    clear hx7 hg7 hv7 HX6 HG6 HV6
                    have hvb : tb O n 0 k i = some 0 := (by unfold tb; rw [if_pos hin, if_neg (by have := HNI.out; omega)])
                    have HVB := Lib.hid hvb
                    obtain ⟨vb, hvb1⟩ : ∃ x, oB (tb O n 0 k i) = x := ⟨_, rfl⟩
                    obtain ⟨vs, hvs1⟩ : ∃ x, oS (tb O n 0 k i) = x := ⟨_, rfl⟩
                    have hxb : BC wr b12 [.bool vb, .string vs] := by have h := HX7.out; unfold bsV at h; rw [← hvb, hvb1, hvs1] at h; exact h
                    have x0 := hxb.at 0 _ rfl
                    have x1 := hxb.at 1 _ rfl
                    have hlen : (inV (rwF N (tbF O n 0 q))).length = N * 2 := by rw [inV_len, rwF_len]
                    have hold : (rwF N (tbF O n 0 q))[q]? = some (false, ⟨#[]⟩) := by
                      rw [rwF_at _ hqN]
                      unfold tbF
                      rw [if_neg (Nat.lt_irrefl _)]
                    obtain ⟨a0, a1⟩ := inV_at9 _ _ _ _ hold
                    have hgb := HG7.out
                    have t0 := hgb.at _ _ a0
                    have t1 := hgb.at _ _ a1
                    have z0 := hgb.z (q * 2) (by rw [hlen]; omega)
                    have z1 := hgb.z (q * 2 + 1) (by rw [hlen]; omega)
                    have HNX := Lib.hid (show BC ((wr.setCell ⟨g, q * 2, none⟩ (.bool vb)).setCell ⟨g, q * 2 + 1, none⟩ (.string vs)) g (inV (rwF N (tbF O n 0 (q + 1)))) from by
                      have h := (hgb.set (q * 2) (.bool vb) (by rw [hlen]; omega)).set (q * 2 + 1) (.string vs) (by rw [List.length_set, hlen]; omega)
                      rw [inV_set9 _ _ _ _ (by rw [rwF_len]; exact hqN)] at h
                      have hs := tbF_step O (n := n) (r := 0) (k := k) (i := i) (N := N) hi (by rw [HKN.out, HQ.out]; exact hqN)
                      rw [HKN.out, HQ.out, hvb1, hvs1] at hs
                      rw [hs] at h
                      exact h)
                    have HNV := Lib.hid ((HV7.out.setCell (p := ⟨g, q * 2, none⟩) (Nat.le_of_eq HGV.out) (.bool vb)).setCell (p := ⟨g, q * 2 + 1, none⟩) (Nat.le_of_eq HGV.out) (.string vs))
                    clear hxb hlen hold a0 a1 hgb hvb hvb1 hvs1
                    go_wp2_with fail
                    go_roundg (n - i)
                    case measure => have := HIG.out; omega
                    case rel => exact ⟨i + 1, by go_num, by omega, by omega, by rw [show kn + (i + 1) = q + 1 by have := HQ.out; omega]; exact HNX.out, HNV.out⟩
                · have hkniB : decide ((ni : Int) ≤ (k : Int)) = false := by simp; omega
                  go_wp2_with fail
                  go_loopg [13] 1 (fun gg v13 wr => v13 = .int .i64 0 ∧ BC wr b12 (bsV none) ∧ BC wr g (inV (rwF N (tbF O n 0 q))) ∧ Below V.heap.size V wr)
                  case atStart => exact ⟨rfl, HX4.out, HG4.out, HV4.out⟩
                  case round =>
                    obtain ⟨rfl, hx7, hg7, hv7⟩ := hrel
                    have HX7 := Lib.hid hx7
                    have HG7 := Lib.hid hg7
                    have HV7 := Lib.hid hv7
                    clear hx7 hg7 hv7 HX4 HG4 HV4
                    have hvb : tb O n 0 k i = none := (by unfold tb; rw [if_pos hin, if_pos (by have := HNI.out; omega)])
                    have HVB := Lib.hid hvb
                    obtain ⟨vb, hvb1⟩ : ∃ x, oB (tb O n 0 k i) = x := ⟨_, rfl⟩
                    obtain ⟨vs, hvs1⟩ : ∃ x, oS (tb O n 0 k i) = x := ⟨_, rfl⟩
                    have hxb : BC wr b12 [.bool vb, .string vs] := by have h := HX7.out; unfold bsV at h; rw [← hvb, hvb1, hvs1] at h; exact h
                    have x0 := hxb.at 0 _ rfl
                    have x1 := hxb.at 1 _ rfl
                    have hlen : (inV (rwF N (tbF O n 0 q))).length = N * 2 := by rw [inV_len, rwF_len]
                    have hold : (rwF N (tbF O n 0 q))[q]? = some (false, ⟨#[]⟩) := by
                      rw [rwF_at _ hqN]
                      unfold tbF
                      rw [if_neg (Nat.lt_irrefl _)]
                    obtain ⟨a0, a1⟩ := inV_at9 _ _ _ _ hold
                    have hgb := HG7.out
                    have t0 := hgb.at _ _ a0
                    have t1 := hgb.at _ _ a1
                    have z0 := hgb.z (q * 2) (by rw [hlen]; omega)
                    have z1 := hgb.z (q * 2 + 1) (by rw [hlen]; omega)
                    have HNX := Lib.hid (show BC ((wr.setCell ⟨g, q * 2, none⟩ (.bool vb)).setCell ⟨g, q * 2 + 1, none⟩ (.string vs)) g (inV (rwF N (tbF O n 0 (q + 1)))) from by
                      have h := (hgb.set (q * 2) (.bool vb) (by rw [hlen]; omega)).set (q * 2 + 1) (.string vs) (by rw [List.length_set, hlen]; omega)
                      rw [inV_set9 _ _ _ _ (by rw [rwF_len]; exact hqN)] at h
                      have hs := tbF_step O (n := n) (r := 0) (k := k) (i := i) (N := N) hi (by rw [HKN.out, HQ.out]; exact hqN)
                      rw [HKN.out, HQ.out, hvb1, hvs1] at hs
                      rw [hs] at h
                      exact h)
                    have HNV := Lib.hid ((HV7.out.setCell (p := ⟨g, q * 2, none⟩) (Nat.le_of_eq HGV.out) (.bool vb)).setCell (p := ⟨g, q * 2 + 1, none⟩) (Nat.le_of_eq HGV.out) (.string vs))
                    clear hxb hlen hold a0 a1 hgb hvb hvb1 hvs1
                    go_wp2_with fail
                    go_roundg (n - i)
                    case measure => have := HIG.out; omega
                    case rel => exact ⟨i + 1, by go_num, by omega, by omega, by rw [show kn + (i + 1) = q + 1 by have := HQ.out; omega]; exact HNX.out, HNV.out⟩
              · obtain ⟨r', rfl⟩ : ∃ r', r = r' + 1 := ⟨r - 1, by have := HR.out; omega⟩
                have hjB : (j : Int) < (m : Int) := by omega
                have hjE : ((j : Int) == (m : Int)) = false := by simp; omega
                have hjE2 : ¬ (j : Int) = (m : Int) := by omega
                obtain ⟨pm, hpm⟩ : ∃ x, min k ni = x := ⟨_, rfl⟩
                have hpmI : min (k : Int) (ni : Int) = (pm : Int) := by omega
                have HPM := Lib.hid hpm
                obtain ⟨j1, hj1⟩ : ∃ x, j + 1 = x := ⟨_, rfl⟩
                have hj1I : (j : Int) + 1 = (j1 : Int) := by omega
                have hj1m : (j1 : Int) < (m1 : Int) := by have := HM1.out; omega
                have hj164 : j1 ≤ 64 := by omega
                have HJ1 := Lib.hid hj1
                have HPB := Lib.hid (show ∀ p x, plc O n r' k i p = some x → x < 2 ^ 90 from fun p x h => by
                  unfold plc at h
                  cases hy : tb O n r' (min (2 * (k - p)) n) (i + p) with
                  | none => rw [hy] at h; cases h
                  | some y =>
                    rw [hy] at h
                    have e : (O.drop (i + p)).sum + y = x := by simpa using h
                    have h2 := tb_le O n r' _ _ _ hy
                    have h3 := congrArg List.sum (List.take_append_drop (i + p) O)
                    rw [List.sum_append] at h3
                    have h4 : (r' + 1) * O.sum ≤ 64 * 2 ^ 74 := Nat.mul_le_mul (by have := HR.out; omega) (Nat.le_of_lt HOS4.out)
                    rw [Nat.add_mul, Nat.one_mul] at h4
                    have h5 : (64 : Nat) * 2 ^ 74 < 2 ^ 90 := by decide
                    omega)
                clear hpm hj1
                go_wp2_with fail
                go_loopg [13] (pm + 2) (fun gg v13 wr => ∃ p : Nat, v13 = .int .i64 (p : Int) ∧ p ≤ pm + 1 ∧ pm + 1 - p < gg ∧ BC wr b12 (bsV (leastF (plc O n r' k i) p)) ∧ BC wr g (inV (rwF N (tbF O n (r' + 1) q))) ∧ Below V.heap.size V wr)
                case atStart => exact ⟨0, rfl, Nat.zero_le _, by omega, HX4.out, HG4.out, HV4.out⟩
                case round =>
                  obtain ⟨p, rfl, hp, hpg, hx7, hg7, hv7⟩ := hrel
                  have HX7 := Lib.hid hx7
                  have HG7 := Lib.hid hg7
                  have HV7 := Lib.hid hv7
                  have HPG := Lib.hid hpg
                  clear hx7 hg7 hv7 hpg HX4 HG4 HV4
                  by_cases hpp : p ≤ pm
                  · have hppI : (p : Int) ≤ (pm : Int) := by omega
                    obtain ⟨U, rfl⟩ : ∃ X, X = wr := ⟨_, rfl⟩
                    have hct := (HJT.out.below HV7.out).at j1 _ (rowsV9_at (m1 := m1) (N := N) (gs := gs) (jj := j + 1) (by omega))
                    rw [if_pos (by have := HJ1.out; omega)] at hct
                    have HCH := Lib.hid (rchoice_any n S (gs j1) k i p r' 90 O U h12 hkn (by have := HPM.out; omega) (by have := HPM.out; have := HNI.out; omega) (by decide)
                      (by
                        have h := (HJR.out j1 (by have := HJ1.out; omega) (by have := HJ1.out; omega)).1.below HV7.out
                        rwa [show m - j1 = r' by have := HJ1.out; have := HR.out; omega] at h)
                      (HJS.out.below HV7.out) HOS.out (fun k i x h => HTX.out r' k i x (by have := HR.out; omega) h))
                    rw [HNS.out, HN1.out] at HCH
                    have HLF := Lib.hid (show leastF (plc O n r' k i) (p + 1) = lsrO (leastF (plc O n r' k i) p) (plc O n r' k i p) from rfl)
                    cases hx : plc O n r' k i p with
                    | none =>
                      rw [hx] at HCH HLF
                      clear hx
                      go_wp2_with fail
                      refine HCH.out.mono ?_
                      rintro e w5 ⟨rfl, hb5⟩
                      unfold oV oB oS
                      have hal : Below w5.heap.size w5 (w5.alloc (.cells #[.bool true, .string (mg 1)] 29)) := (Below.refl _ _).alloc (Nat.le_refl _) _
                      have HX8 := Lib.hid ((HX7.out.below hb5).below hal)
                      have HG8 := Lib.hid ((HG7.out.below hb5).below hal)
                      have HV8 := Lib.hid (bstep (bstep HV7.out hb5) hal)
                      have HY8 := Lib.hid (BC.new w5 w5.heap.size #[.bool true, .string (mg 1)] 29 rfl)
                      have HB14 := Lib.hid (show b12 < w5.heap.size from (HX7.out.below hb5).lt)
                      clear hb5 hal HX7 HG7 HV7 HCH hct
                      go_upto_region 21 with fail
                      obtain ⟨b14, hb14⟩ : ∃ b, w5.heap.size = b := ⟨_, rfl⟩
                      rw [hb14] at HY8 HB14 ⊢
                      obtain ⟨X8, hX8⟩ : ∃ X, w5.alloc (.cells #[.bool true, .string (mg 1)] 29) = X := ⟨_, rfl⟩
                      rw [hX8] at HX8 HG8 HV8 HY8 ⊢
                      clear hX8 hb14
                      have y0 := HY8.out.at 0 _ rfl
                      have y1 := HY8.out.at 1 _ rfl
                      have HLG := Lib.hid (show leastF (plc O n r' k i) (p + 1) = leastF (plc O n r' k i) p from by rw [HLF.out]; cases leastF (plc O n r' k i) p <;> rfl)
                      go_wp2_with fail
                      go_roundg (pm + 1 - p)
                      case measure => have := HPG.out; omega
                      case rel => exact ⟨p + 1, by go_num, by omega, by omega, by rw [HLG.out]; exact HX8.out, HG8.out, HV8.out⟩
                    | some x =>
                      have HXB := Lib.hid (HPB.out p x hx)
                      rw [hx] at HCH HLF
                      cases hy : leastF (plc O n r' k i) p with
                      | none =>
                        rw [hy] at HX7 HLF
                        clear hx
                        go_wp2_with fail
                        refine HCH.out.mono ?_
                        rintro e w5 ⟨rfl, hb5⟩
                        unfold oV oB oS
                        have hal : Below w5.heap.size w5 (w5.alloc (.cells #[.bool false, .string (mg x)] 29)) := (Below.refl _ _).alloc (Nat.le_refl _) _
                        have HX8 := Lib.hid ((HX7.out.below hb5).below hal)
                        have HG8 := Lib.hid ((HG7.out.below hb5).below hal)
                        have HV8 := Lib.hid (bstep (bstep HV7.out hb5) hal)
                        have HY8 := Lib.hid (BC.new w5 w5.heap.size #[.bool false, .string (mg x)] 29 rfl)
                        have HB14 := Lib.hid (show b12 < w5.heap.size from (HX7.out.below hb5).lt)
                        clear hb5 hal HX7 HG7 HV7 HCH hct
                        go_upto_region 21 with fail
                        obtain ⟨b14, hb14⟩ : ∃ b, w5.heap.size = b := ⟨_, rfl⟩
                        rw [hb14] at HY8 HB14 ⊢
                        obtain ⟨X8, hX8⟩ : ∃ X, w5.alloc (.cells #[.bool false, .string (mg x)] 29) = X := ⟨_, rfl⟩
                        rw [hX8] at HX8 HG8 HV8 HY8 ⊢
                        clear hX8 hb14
                        have y0 := HY8.out.at 0 _ rfl
                        have y1 := HY8.out.at 1 _ rfl
                        have HX9 := Lib.hid (show BC X8 b12 [.bool true, .string (mg 1)] from HX8.out)
                        have x0 := HX9.out.at 0 _ rfl
                        have x1 := HX9.out.at 1 _ rfl
                        have z0 := HX9.out.z 0 (by simp)
                        have z1 := HX9.out.z 1 (by simp)
                        have HXF := Lib.hid (show BC ((X8.setCell ⟨b12, 0, none⟩ (.bool false)).setCell ⟨b12, 1, none⟩ (.string (mg x))) b12 (bsV (some x)) from HX9.out.set2 0 1 (.bool false) (.string (mg x)) (by simp) (by simp))
                        have HGF := Lib.hid ((HG8.out.other 0 (.bool false) (c := b12) (by have := HBG.out.1; omega)).other 1 (.string (mg x)) (c := b12) (by have := HBG.out.1; omega))
                        have HVF := Lib.hid ((HV8.out.setCell (p := ⟨b12, 0, none⟩) HBG.out.2 (.bool false)).setCell (p := ⟨b12, 1, none⟩) HBG.out.2 (.string (mg x)))
                        go_wp2_with fail
                        go_roundg (pm + 1 - p)
                        case measure => have := HPG.out; omega
                        case rel => exact ⟨p + 1, by go_num, by omega, by omega, by rw [HLF.out]; exact HXF.out, HGF.out, HVF.out⟩
                      | some y =>
                        have HYB := Lib.hid (show y < 2 ^ 90 from by
                          rcases Nat.eq_zero_or_pos p with h0 | h0
                          · subst h0; cases hy
                          · obtain ⟨p2, -, h2⟩ := leastF_at (f := plc O n r' k i) p h0
                            exact HPB.out p2 y (h2.trans hy))
                        rw [hy] at HX7 HLF
                        clear hx
                        go_wp2_with fail
                        refine HCH.out.mono ?_
                        rintro e w5 ⟨rfl, hb5⟩
                        unfold oV oB oS
                        have hal : Below w5.heap.size w5 (w5.alloc (.cells #[.bool false, .string (mg x)] 29)) := (Below.refl _ _).alloc (Nat.le_refl _) _
                        have HX8 := Lib.hid ((HX7.out.below hb5).below hal)
                        have HG8 := Lib.hid ((HG7.out.below hb5).below hal)
                        have HV8 := Lib.hid (bstep (bstep HV7.out hb5) hal)
                        have HY8 := Lib.hid (BC.new w5 w5.heap.size #[.bool false, .string (mg x)] 29 rfl)
                        have HB14 := Lib.hid (show b12 < w5.heap.size from (HX7.out.below hb5).lt)
                        clear hb5 hal HX7 HG7 HV7 HCH hct
                        go_upto_region 21 with fail
                        obtain ⟨b14, hb14⟩ : ∃ b, w5.heap.size = b := ⟨_, rfl⟩
                        rw [hb14] at HY8 HB14 ⊢
                        obtain ⟨X8, hX8⟩ : ∃ X, w5.alloc (.cells #[.bool false, .string (mg x)] 29) = X := ⟨_, rfl⟩
                        rw [hX8] at HX8 HG8 HV8 HY8 ⊢
                        clear hX8 hb14
                        have y0 := HY8.out.at 0 _ rfl
                        have y1 := HY8.out.at 1 _ rfl
                        have HX9 := Lib.hid (show BC X8 b12 [.bool false, .string (mg y)] from HX8.out)
                        have x0 := HX9.out.at 0 _ rfl
                        have x1 := HX9.out.at 1 _ rfl
                        have HCP := Lib.hid (fun X => rCmpN (x := x) (d := y) 90 90 HXB.out HYB.out (by decide) (by decide) X)
                        obtain ⟨c, hc⟩ : ∃ c, cmpI (x : Int) (y : Int) = c := ⟨_, rfl⟩
                        rw [hc] at HCP
                        have hcc : c < 0 ↔ x < y := by
                          rw [← hc]
                          rcases cmpI_cases (x : Int) (y : Int) with ⟨h1, h2, -⟩ | ⟨h1, h2, -⟩ | ⟨h1, h2, -⟩ <;> rw [h2] <;> constructor <;> intro <;> omega
                        clear hc
                        go_wp2_with fail
                        refine (HCP.out _).mono ?_
                        rintro e w6 ⟨rfl, hb6⟩
                        have HX10 := Lib.hid (HX9.out.below hb6)
                        have HY10 := Lib.hid (HY8.out.below hb6)
                        have HG10 := Lib.hid (HG8.out.below hb6)
                        have HV10 := Lib.hid (bstep HV8.out hb6)
                        clear hb6 x0 x1 y0 y1 HCP
                        by_cases hxy : x < y
                        · have hcn : c < 0 := hcc.2 hxy
                          have x0 := HX10.out.at 0 _ rfl
                          have x1 := HX10.out.at 1 _ rfl
                          have y0 := HY10.out.at 0 _ rfl
                          have y1 := HY10.out.at 1 _ rfl
                          have z0 := HX10.out.z 0 (by simp)
                          have z1 := HX10.out.z 1 (by simp)
                          have HXF := Lib.hid (show BC ((w6.setCell ⟨b12, 0, none⟩ (.bool false)).setCell ⟨b12, 1, none⟩ (.string (mg x))) b12 (bsV (some x)) from HX10.out.set2 0 1 (.bool false) (.string (mg x)) (by simp) (by simp))
                          have HGF := Lib.hid ((HG10.out.other 0 (.bool false) (c := b12) (by have := HBG.out.1; omega)).other 1 (.string (mg x)) (c := b12) (by have := HBG.out.1; omega))
                          have HVF := Lib.hid ((HV10.out.setCell (p := ⟨b12, 0, none⟩) HBG.out.2 (.bool false)).setCell (p := ⟨b12, 1, none⟩) HBG.out.2 (.string (mg x)))
                          have HLG := Lib.hid (show leastF (plc O n r' k i) (p + 1) = some x from by rw [HLF.out, lsrO_ss, if_pos hxy])
                          clear hcc
                          go_wp2_with fail
                          go_roundg (pm + 1 - p)
                          case measure => have := HPG.out; omega
                          case rel => exact ⟨p + 1, by go_num, by omega, by omega, by rw [HLG.out]; exact HXF.out, HGF.out, HVF.out⟩
                        · have hcn : decide (c < 0) = false := by simp; omega
                          have HLG := Lib.hid (show leastF (plc O n r' k i) (p + 1) = some y from by rw [HLF.out, lsrO_ss, if_neg hxy])
                          clear hcc
                          go_wp2_with fail
                          go_roundg (pm + 1 - p)
                          case measure => have := HPG.out; omega
                          case rel => exact ⟨p + 1, by go_num, by omega, by omega, by rw [HLG.out]; exact HX10.out, HG10.out, HV10.out⟩
                  · have hppB : decide ((p : Int) ≤ (pm : Int)) = false := by simp; omega
                    have hpe : p = pm + 1 := by omega
                    have hvb : tb O n (r' + 1) k i = leastF (plc O n r' k i) p := (by rw [tb_succ O hin, HNI.out, HPM.out, hpe])
                    have HVB := Lib.hid hvb
                    obtain ⟨vb, hvb1⟩ : ∃ x, oB (tb O n (r' + 1) k i) = x := ⟨_, rfl⟩
                    obtain ⟨vs, hvs1⟩ : ∃ x, oS (tb O n (r' + 1) k i) = x := ⟨_, rfl⟩
                    have hxb : BC wr b12 [.bool vb, .string vs] := by have h := HX7.out; unfold bsV at h; rw [← hvb, hvb1, hvs1] at h; exact h
                    have x0 := hxb.at 0 _ rfl
                    have x1 := hxb.at 1 _ rfl
                    have hlen : (inV (rwF N (tbF O n (r' + 1) q))).length = N * 2 := by rw [inV_len, rwF_len]
                    have hold : (rwF N (tbF O n (r' + 1) q))[q]? = some (false, ⟨#[]⟩) := by
                      rw [rwF_at _ hqN]
                      unfold tbF
                      rw [if_neg (Nat.lt_irrefl _)]
                    obtain ⟨a0, a1⟩ := inV_at9 _ _ _ _ hold
                    have hgb := HG7.out
                    have t0 := hgb.at _ _ a0
                    have t1 := hgb.at _ _ a1
                    have z0 := hgb.z (q * 2) (by rw [hlen]; omega)
                    have z1 := hgb.z (q * 2 + 1) (by rw [hlen]; omega)
                    have HNX := Lib.hid (show BC ((wr.setCell ⟨g, q * 2, none⟩ (.bool vb)).setCell ⟨g, q * 2 + 1, none⟩ (.string vs)) g (inV (rwF N (tbF O n (r' + 1) (q + 1)))) from by
                      have h := (hgb.set (q * 2) (.bool vb) (by rw [hlen]; omega)).set (q * 2 + 1) (.string vs) (by rw [List.length_set, hlen]; omega)
                      rw [inV_set9 _ _ _ _ (by rw [rwF_len]; exact hqN)] at h
                      have hs := tbF_step O (n := n) (r := (r' + 1)) (k := k) (i := i) (N := N) hi (by rw [HKN.out, HQ.out]; exact hqN)
                      rw [HKN.out, HQ.out, hvb1, hvs1] at hs
                      rw [hs] at h
                      exact h)
                    have HNV := Lib.hid ((HV7.out.setCell (p := ⟨g, q * 2, none⟩) (Nat.le_of_eq HGV.out) (.bool vb)).setCell (p := ⟨g, q * 2 + 1, none⟩) (Nat.le_of_eq HGV.out) (.string vs))
                    clear hxb hlen hold a0 a1 hgb hvb hvb1 hvs1
                    go_wp2_with fail
                    go_roundg (n - i)
                    case measure => have := HIG.out; omega
                    case rel => exact ⟨i + 1, by go_num, by omega, by omega, by rw [show kn + (i + 1) = q + 1 by have := HQ.out; omega]; exact HNX.out, HNV.out⟩
            · obtain rfl : i = n := by omega
              have hinB : decide ((i : Int) < (i : Int)) = false := by simp
              go_wp2_with fail
              go_roundg (n1 - k)
              case measure => have := HKG.out; omega
              case rel => exact ⟨k + 1, by go_num, by have := HN1.out; omega, by have := HN1.out; omega, by rw [← tbF_skip, HKN.out]; exact HIB.out, HIV.out⟩
        · have hknB : decide ((k : Int) ≤ (n : Int)) = false := by simp; omega
          obtain rfl : k = n1 := by have := HN1.out; omega
          have hkt := HJT.out.below HKV.out
          have hco := rowsV9_at (m1 := m1) (N := N) (gs := gs) (jj := j + 1) (j := j) (by omega)
          rw [if_neg (by omega)] at hco
          have c0 := hkt.at j _ hco
          have z0 := hkt.z j (by rw [rowsV9_len]; omega)
          have HNT := Lib.hid (show BC (wr.setCell ⟨T, j, none⟩ (.slice (some ⟨g, 0, none⟩) N N)) T (rowsV9 m1 N (fun t => if t = j then g else gs t) j) from by
            have h := hkt.set j (.slice (some ⟨g, 0, none⟩) N N) (by rw [rowsV9_len]; omega)
            rwa [rowsV9_set (by omega)] at h)
          have HTG := Lib.hid (show T < g from by rw [← HGV.out]; exact HJL.out)
          have HNR := Lib.hid (show ∀ t, j ≤ t → t ≤ m → RowT (wr.setCell ⟨T, j, none⟩ (.slice (some ⟨g, 0, none⟩) N N)) (if t = j then g else gs t) O n (m - t) ∧ T < (if t = j then g else gs t) from fun t h1 h2 => by
            by_cases ht : t = j
            · rw [if_pos ht, ht, HR.out]
              refine ⟨RowT.set9 (RowT.of ?_) (by have := HTG.out; omega), HTG.out⟩
              have h := HKB.out
              rw [← HN1.out] at h
              rw [HNS.out]
              rwa [HNS.out] at h
            · rw [if_neg ht]
              obtain ⟨h3, h4⟩ := HJR.out t (by omega) h2
              exact ⟨RowT.set9 (h3.below HKV.out) (by omega), h4⟩)
          have HNSS := Lib.hid (SumT.set9 (p := T) (o := j) (v := .slice (some ⟨g, 0, none⟩) N N) (HJS.out.below HKV.out) (by have := HSL.out.1; omega))
          have HNB := Lib.hid ((bstep HJB.out HKV.out).setCell (p := ⟨T, j, none⟩) HSL.out.2 (.slice (some ⟨g, 0, none⟩) N N))
          clear hkt hco
          go_wp2_with fail
          go_roundg (j + 1)
          case measure => have := HJG.out; omega
          case rel => exact ⟨j, fun t => if t = j then g else gs t, by go_num, by omega, by omega, HNT.out, HNR.out, HNSS.out, HNB.out, HNT.out.lt⟩
end Go.Proofs.Gv
