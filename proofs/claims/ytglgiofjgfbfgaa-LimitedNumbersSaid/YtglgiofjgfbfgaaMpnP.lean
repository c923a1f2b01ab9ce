/- grooveref39.Packages. -/
import Derived.Test.YtglgiofjgfbfgaaMli
import Derived.Test.YtglgiofjgfbfgaaMle
import Derived.Test.YtglgiofjgfbfgaaLawP
import Derived.Test.YtglgiofjgfbfgaaRefAdd
set_option linter.unusedSimpArgs false
set_option linter.unusedVariables false
namespace Go.Proofs.Gv
open Go Go.RowKit Go.Maps

set_option maxRecDepth 100000 in
set_option maxHeartbeats 16000000 in
theorem rPackages_any (cap : Nat) (a : Option Addr) (L : List (Bool × ByteArray)) (m : Int) (hc : L.length ≤ cap) (hcm : cap ≤ maxLen) (h12 : L.length ≤ 12 ∨ 64 < L.length) (hz : ∀ x ∈ L, x.2.size ≤ 8) (hm : (Lit.int .i64 m).wf = true) (w : World) (hSl : Sl w a L) :
    Calls Try.prog 28 #[.slice a L.length cap, .int .i64 m] w (PkP L m w) := by
  have HCK := Lib.hid (rcheck39_any cap a L m (Nat.le_trans hc hcm) h12 hz hm w hSl)
  by_cases h0 : ¬ limE L m = 0
  · obtain ⟨E, hE⟩ : ∃ E, limE L m = E := ⟨_, rfl⟩
    have HE := Lib.hid hE
    rw [hE] at HCK h0
    have hne : (E != 0) = true := by simpa using h0
    have HN := Lib.hid h0
    clear h0 hE hSl hz
    go_enter Try.func28, Try.ntmps28
    go_wp2_with fail
    refine HCK.out.mono ?_
    rintro e w1 ⟨rfl, hb⟩
    go_wp2
    go_ret2
    unfold PkP
    rw [HE.out]
    exact ⟨fun _ => rfl, fun h => absurd h HN.out, hb⟩
  · have h0 := Decidable.not_not.1 h0
    obtain ⟨hck, m, rfl, hk1, hk64, hk2⟩ := limE_ok h0
    obtain ⟨h2, h64, Ws, hWs⟩ := chkW_ok hck
    obtain rfl : L = VL Ws := hWs
    have HL0 := Lib.hid h0
    rw [h0] at HCK
    obtain ⟨A, rfl⟩ := hSl.some9 (by omega)
    rw [VL_len] at hc h2 h64 h12 hk2 HCK ⊢
    have HLI := Lib.hid (fun W (hb : Below w.heap.size w W) => rlists_any A cap Ws m (by omega) (by omega) hk1 hk64 (VLlt9 hz) W (hSl.below hb))
    obtain ⟨Aw, hAw⟩ : ∃ x, auL Ws = x := ⟨_, rfl⟩
    have HAW := Lib.hid hAw
    have HAs := Lib.hid (show Aw.Pairwise (· ≤ ·) from by rw [← hAw]; exact auL_asc Ws)
    obtain ⟨n, hn⟩ : ∃ n, Ws.length = n := ⟨_, rfl⟩
    have HNN := Lib.hid hn
    have HAl := Lib.hid (show Aw.length = n from by rw [← hAw, auL_len, hn])
    rw [hn] at HCK HLI h2 hk2 hc h12 h64 ⊢
    rw [hAw] at HLI
    have h12n : n ≤ 12 := by omega
    obtain ⟨M, hM⟩ : ∃ M, 2 * n - 2 = M := ⟨_, rfl⟩
    have HME := Lib.hid hM
    have HMM := Lib.hid (show M ≤ (lvI Aw m).length from by
      obtain ⟨t, rfl⟩ : ∃ t, m = t + 1 := ⟨m - 1, by omega⟩
      have := lvI_has (A := Aw) (t := t) (by rw [HAl.out]; exact hk2)
      rw [HAl.out] at this
      omega)
    obtain ⟨n2, hn2⟩ : ∃ x, 2 * n = x := ⟨_, rfl⟩
    have hn2I : 2 * (n : Int) = (n2 : Int) := by omega
    have hMI : (n2 : Int) - 2 = (M : Int) := by omega
    have hn224 : n2 ≤ 24 := by omega
    clear h0 hSl hz hn hc h12 hk2 hck hM hn2 hAw h64
    obtain ⟨iN, hiN, hzN, hzN1, hzN2⟩ := info_parts infoR2
    go_enter Try.func28, Try.ntmps28
    go_wp2_with fail
    refine HCK.out.mono ?_
    rintro e w1 ⟨rfl, hb⟩
    have HB := Lib.hid hb
    have HX1 := Lib.hid (HLI.out w1 hb)
    clear hb HLI HCK
    go_wp2_with fail
    refine HX1.out.mono ?_
    rintro e w2 ⟨gl, cl, Lv, rfl, hcl1, hcl2, hbl, hlv, hb2⟩
    have HBL := Lib.hid hbl
    have HLV := Lib.hid hlv
    have HB2 := Lib.hid (bstep HB.out hb2)
    have HCL := Lib.hid (And.intro hcl1 hcl2)
    have HO0 := Lib.hid (own_emp (w := w2) (base := w2.heap.size) 32 1 (Nat.le_refl _))
    have HA0 := Lib.hid (show Below w2.heap.size w2 (w2.alloc (.cells #[] 32)) from (Below.refl _ _).alloc (Nat.le_refl _) _)
    clear hbl hlv hb2 hcl1 hcl2 HB HX1
    obtain ⟨B0, hB0⟩ : ∃ b, w2.heap.size = b := ⟨_, rfl⟩
    have HB0 := Lib.hid hB0
    rw [hB0] at HO0 HA0
    clear hB0
    go_wp2_with fail
    go_loopg [8, 9, 10] (m + 2) (fun gg v8 v9 v10 wr => ∃ (j kj mj : Nat) (Lr : List Value), v9 = .int .i64 (mj : Int) ∧ v10 = .int .i64 ((kj : Int) - 1) ∧ kj + j = m ∧ kj < gg ∧ mj ≤ 24 ∧ wr.ownsRow B0 32 1 v8 j Lr ∧ Rw2 wr B0 v8.ownBlock Lr ((tkI Aw m M).take j) ∧ tkI Aw m M = (tkI Aw m M).take j ++ tkI Aw kj mj ∧ mj ≤ (lvI Aw kj).length ∧ Below B0 w2 wr)
    case atStart => exact ⟨0, m, M, [], rfl, rfl, rfl, by omega, by omega, by rw [← HB0.out]; rw [← HB0.out] at HO0; exact HO0.out, Rw2.nil _ _ _, rfl, HMM.out, HA0.out⟩
    case round =>
      obtain ⟨j, kj, mj, Lr, rfl, rfl, hkj, hkg, hmj24, hro, hrw, htk, hmj, hbr⟩ := hrel
      have HKG := Lib.hid hkg
      have HRO := Lib.hid hro
      have HRW := Lib.hid hrw
      have HTK := Lib.hid htk
      have HMJ := Lib.hid hmj
      have HBR := Lib.hid hbr
      clear hkg hro hrw htk hmj hbr HO0 HA0
      obtain ⟨W3, rfl⟩ : ∃ X, X = wr := ⟨_, rfl⟩
      obtain ⟨vr, rfl⟩ : ∃ X, X = u8 := ⟨_, rfl⟩
      rcases Nat.eq_zero_or_pos kj with hk0 | hk0
      · subst hk0
        have hB : decide ((0 : Int) ≤ ((0 : Nat) : Int) - 1) = false := by decide
        obtain rfl : j = m := by omega
        have hrw := HRW.out
        rw [List.take_of_length_le (by rw [tkI_len]; exact Nat.le_refl _)] at hrw
        obtain ⟨g, c, rfl, hc1, hc2, hg, ho⟩ := OwnAt.of HRO.out hk1 (by have h9 := hrw.len; rw [tkI_len] at h9; omega)
        have HRF := Lib.hid hrw
        have HOF := Lib.hid ho
        have HCF := Lib.hid (And.intro hc1 hc2)
        clear hrw ho hc1 hc2
        go_wp2
        go_ret2
        unfold PkP
        refine ⟨fun h => absurd HL0.out h, fun _ => ⟨Ws, g, c, rfl, by rw [Int.toNat_natCast]; rfl, by rw [Int.toNat_natCast]; exact HCF.out.1, HCF.out.2, ?_⟩, HB2.out.trans (HBR.out.mono (by have := HB2.out.size; have := HB0.out; omega))⟩
        rw [Int.toNat_natCast, HAW.out, HNN.out, HME.out]
        intro j t s hj
        obtain ⟨gj, a1, a2, a3, a4, a5, a6⟩ := HRF.out.row j t s hj
        exact ⟨gj, HOF.out.at a1, a5, a6⟩
      · obtain ⟨t, rfl⟩ : ∃ t, kj = t + 1 := ⟨kj - 1, by omega⟩
        have htI : (((t + 1 : Nat) : Int) - 1) = (t : Int) := by omega
        have ht0 : (0 : Int) ≤ (t : Int) := by omega
        have htm : (t : Int) < (m : Int) := by omega
        rw [htI]
        obtain ⟨lev, hlev⟩ : ∃ x, lvI Aw (t + 1) = x := ⟨_, rfl⟩
        have HLE := Lib.hid hlev
        obtain ⟨vl, hvl⟩ : ∃ v, Lv[t]? = some v := ⟨Lv[t]'(by rw [HLV.out.len]; omega), List.getElem?_eq_getElem _⟩
        obtain ⟨g, c, rfl, hc1, hc2, hg1, hg2, hIt⟩ := HLV.out.row t vl hvl
        have hbl := HBL.out.at t _ hvl
        have hnl2 := lvI_le Aw (t + 1)
        have hmj := HMJ.out
        rw [hlev] at hc1 hIt hbl hnl2 hmj
        rw [HAl.out] at hnl2
        obtain ⟨nl, hnl⟩ : ∃ x, lev.length = x := ⟨_, rfl⟩
        have HNL := Lib.hid hnl
        rw [hnl] at hc1 hbl hnl2 hmj
        have hnlc : (nl : Int) ≤ (c : Int) := by omega
        have hmjI : (mj : Int) ≤ (nl : Int) := by omega
        have hnl24 : nl ≤ 24 := by omega
        have hWb : Below w2.heap.size w2 W3 := by rw [HB0.out]; exact HBR.out
        have HIT := Lib.hid (hIt.below hWb)
        have HCB := Lib.hid (cellBelow hbl hWb)
        clear hvl hc1 hc2 hg1 hg2 hIt hbl hlev hnl hWb htI
        go_wp2_with fail
        go_loopg [11, 12] (mj + 1) (fun gg v11 v12 wq => ∃ i pn : Nat, v12 = .int .i64 (i : Int) ∧ i ≤ mj ∧ mj - i < gg ∧ v11 = .int .i64 (pn : Int) ∧ pn + sgN (lev.take i) = i ∧ Below W3.heap.size W3 wq)
        case atStart => exact ⟨0, 0, rfl, Nat.zero_le _, by omega, rfl, rfl, Below.refl _ _⟩
        case round =>
          obtain ⟨i, pn, rfl, hi, hig, rfl, hpn, hib⟩ := hrel
          have HIG := Lib.hid hig
          have HIB := Lib.hid hib
          have HPN := Lib.hid hpn
          have hpn24 : pn ≤ 24 := by omega
          clear hig hib hpn
          by_cases hlt2 : i < mj
          · have hlI : (i : Int) < (mj : Int) := by omega
            have hiN : (i : Int) < (nl : Int) := by omega
            obtain ⟨⟨xn, xb⟩, hx⟩ : ∃ x, lev[i]? = some x := ⟨lev[i]'(by have := HNL.out; omega), List.getElem?_eq_getElem _⟩
            obtain ⟨e0, e1, e2⟩ := (HIT.out.below HIB.out).at3 (ngI_at hx)
            simp only [] at e0 e1 e2
            have e3 := cellBelow HCB.out HIB.out
            have HS2 := Lib.hid (show sgN (lev.take (i + 1)) = sgN (lev.take i) + if xb then 1 else 0 from by
              rw [List.take_add_one, hx]
              unfold sgN
              rw [List.countP_append]
              cases xb <;> rfl)
            clear hx e0 e1
            cases xb with
            | true =>
              simp only [Bool.not_true] at e2
              go_wp2_with fail
              go_roundg (mj - i)
              case measure => have := HIG.out; omega
              case rel => exact ⟨i + 1, pn, by go_num, by omega, by omega, rfl, by rw [HS2.out]; have := HPN.out; simp; omega, HIB.out⟩
            | false =>
              simp only [Bool.not_false] at e2
              go_wp2_with fail
              go_roundg (mj - i)
              case measure => have := HIG.out; omega
              case rel => exact ⟨i + 1, pn + 1, by go_num, by omega, by omega, by go_num, by rw [HS2.out]; have := HPN.out; simp; omega, HIB.out⟩
          · have hB : decide ((i : Int) < (mj : Int)) = false := by simp; omega
            obtain rfl : i = mj := by omega
            obtain ⟨sn, hsn⟩ : ∃ x, sgN (lev.take i) = x := ⟨_, rfl⟩
            have hps := HPN.out
            rw [hsn] at hps
            have hsnI : (i : Int) - (pn : Int) = (sn : Int) := by omega
            obtain ⟨p2, hp2⟩ : ∃ x, 2 * pn = x := ⟨_, rfl⟩
            have hp2I : 2 * (pn : Int) = (p2 : Int) := by omega
            have HP2 := Lib.hid (show 2 * (i - sn) = p2 from by omega)
            obtain ⟨t1, t2, t3, t4⟩ := tk_step HAs.out (j := j) (s := sn) hkj (by omega) HTK.out HMJ.out (by rw [HLE.out]; exact hsn)
            rw [HP2.out, show m - (j + 1) = t by omega] at t2 t3
            have HT := Lib.hid (And.intro t1 (And.intro t2 t3))
            have HP48 := Lib.hid (show p2 ≤ 24 from by
              have h9 := lvI_le Aw t
              rw [HAl.out] at h9
              omega)
            have HRO3 := Lib.hid (own_grown HRO.out (gRow HIB.out none) (by simp))
            have HRW3 := Lib.hid (HRW.out.grown (gRow HIB.out none) (fun g _ _ => .inl (by simp)))
            have HBW := Lib.hid (show Below B0 w2 wr from HBR.out.trans (HIB.out.mono (by have := HBR.out.size; have := HB0.out; omega)))
            have HWS := Lib.hid (show B0 ≤ wr.heap.size from by have := HBW.out.size; have := HB0.out; omega)
            have hj64 : j ≤ 64 := by omega
            clear t1 t2 t3 t4 hps hsn hp2 hlt2
            go_wp2_with (at_builtin; refine wpList_append_own_at _ rfl _ _ 46 rfl B0 32 iN (.slice none 0 0) 1 24 Try.underlying46 hiN hzN hzN1 hzN2 rfl (by decide) _ _ _ rfl ((HRO3.out.alloc _).alloc _) ⟨wr.heap.size + 1, 0, none⟩ 1 1 [.slice (some ⟨wr.heap.size, 0, none⟩) 2 2] rfl rfl (by have := cells_new1 (wr.alloc (.cells #[.int .i64 (i : Int), .int .i64 (sn : Int)] 3)) (.slice (some ⟨wr.heap.size, 0, none⟩) 2 2) 32; rw [World.size_alloc] at this; exact this) (by simp [Value.oneCell']) (by unfold maxLen; omega) (by omega) (by have := HWS.out; simp; omega) ?_; intro v' w5 hown' hgrow _ hat; have HO5 := Lib.hid hown'; have HG5 := Lib.hid hgrow; have HA5 := Lib.hid hat; clear hown' hgrow hat)
            go_roundg (t + 1)
            case measure => have := HKG.out; omega
            case rel =>
              have hal1 : wr.grownBy (wr.alloc (.cells #[.int .i64 (i : Int), .int .i64 (sn : Int)] 3)) none := World.grownBy_alloc wr _ none
              have hal2 : (wr.alloc (.cells #[.int .i64 (i : Int), .int .i64 (sn : Int)] 3)).grownBy ((wr.alloc (.cells #[.int .i64 (i : Int), .int .i64 (sn : Int)] 3)).alloc (.cells #[.slice (some ⟨wr.heap.size, 0, none⟩) 2 2] 32)) none := World.grownBy_alloc _ _ none
              have hbn := (BC.new wr wr.heap.size #[.int .i64 (i : Int), .int .i64 (sn : Int)] 3 rfl).alloc (.cells #[.slice (some ⟨wr.heap.size, 0, none⟩) 2 2] 32)
              have hrw9 := ((HRW3.out.grown hal1 (fun g _ _ => .inl (by simp))).grown hal2 (fun g _ _ => .inl (by simp))).app (g := wr.heap.size) (t := i) (s := sn) HG5.out (by have := HA5.out; exact this) HWS.out (by simp; omega) (fun e => by have := (own_base HRO3.out e).2; omega) (hbn.at 0 _ rfl) (hbn.at 1 _ rfl)
              rw [← HT.out.1] at hrw9
              refine ⟨j + 1, t, p2, Lr ++ [.slice (some ⟨wr.heap.size, 0, none⟩) 2 2], rfl, rfl, by omega, by omega, HP48.out, HO5.out, hrw9, HT.out.2.1, HT.out.2.2, ?_⟩
              exact (((HBW.out.alloc HWS.out _).alloc (by have := HWS.out; simp; omega) _)).grown HG5.out (by have := HWS.out; simp; omega) (fun k e => (own_base HRO3.out e).1)
theorem PkR.belowM {W W' : World} {g : Nat} {P : List (Nat × Nat)} (h : PkR W g P) (hb : Below W.heap.size W W') : PkR W' g P := fun j t s hj => by
  obtain ⟨gj, h1, h2, h3⟩ := h j t s hj
  exact ⟨gj, cellBelow h1 hb, cellBelow h2 hb, cellBelow h3 hb⟩
set_option maxRecDepth 100000 in
set_option maxHeartbeats 4000000 in
theorem rsame_any (m g1 g2 c1 c2 : Nat) (P : List (Nat × Nat)) (hP : P.length = m) (hm : m ≤ 64) (w : World) (r1 : PkR w g1 P) (r2 : PkR w g2 P) :
    Calls Try.prog 29 #[.slice (some ⟨g1, 0, none⟩) m c1, .slice (some ⟨g2, 0, none⟩) m c2] w fun e w' => e = .returned (.bool true) ∧ Below w.heap.size w w' := by
  have R1 := Lib.hid r1
  have R2 := Lib.hid r2
  have HPL := Lib.hid hP
  clear r1 r2 hP
  go_enter Try.func29, Try.ntmps29
  go_wp2_with fail
  go_loopg [5] (m + 1) (fun gg v5 wr => ∃ i : Nat, v5 = .int .i64 (i : Int) ∧ i ≤ m ∧ m - i < gg ∧ Below w.heap.size w wr)
  case atStart => exact ⟨0, rfl, Nat.zero_le _, by omega, Below.refl _ _⟩
  case round =>
    obtain ⟨i, rfl, hi, hig, hib⟩ := hrel
    have HIG := Lib.hid hig
    have HIB := Lib.hid hib
    clear hig hib
    by_cases him : i < m
    · have himI : (i : Int) < (m : Int) := by omega
      obtain ⟨V, rfl⟩ : ∃ X, X = wr := ⟨_, rfl⟩
      obtain ⟨⟨tx, sx⟩, hx⟩ : ∃ x, P[i]? = some x := ⟨P[i]'(by rw [HPL.out]; exact him), List.getElem?_eq_getElem _⟩
      obtain ⟨ga, a1, a2, a3⟩ := (R1.out.belowM HIB.out) i tx sx hx
      obtain ⟨gb, b1, b2, b3⟩ := (R2.out.belowM HIB.out) i tx sx hx
      have HA := Lib.hid (And.intro a1 (And.intro a2 a3))
      have HB := Lib.hid (And.intro b1 (And.intro b2 b3))
      haveI := cls_some V
      have f0 : ∀ u : Cl V, u.x.cell? ⟨g1, i, none⟩ = some (.slice (some ⟨ga, 0, none⟩) 2 2) := fun u => cellBelow a1 u.h
      have f1 : ∀ u : Cl V, u.x.cell? ⟨g2, i, none⟩ = some (.slice (some ⟨gb, 0, none⟩) 2 2) := fun u => cellBelow b1 u.h
      clear a1 a2 a3 b1 b2 b3 hx
      go_wp2_with fail
      refine wp_region_cls (by kernel_rfl) ?_
      iterate 11 (go_big_quiet_step (fail))
      refine wpQuiet_nil ?_
      intro w7 hw7
      obtain ⟨u7, rfl⟩ := hw7
      have HU := Lib.hid u7.h
      obtain ⟨W7, hW7⟩ : ∃ U, u7.x = U := ⟨_, rfl⟩
      rw [hW7] at HU ⊢
      clear hW7 f0 f1 this u7
      go_wp2_with fail
      go_loopg [6] 3 (fun gg v6 wq => ∃ q : Nat, v6 = .int .i64 (q : Int) ∧ q ≤ 2 ∧ 2 - q < gg ∧ Below V.heap.size V wq)
      case atStart => exact ⟨0, rfl, by omega, by omega, HU.out⟩
      case round =>
        obtain ⟨q, rfl, hq, hqg, hqb⟩ := hrel
        have HQG := Lib.hid hqg
        have HQB := Lib.hid hqb
        clear hqg hqb HU
        obtain ⟨V2, rfl⟩ : ∃ X, X = wr := ⟨_, rfl⟩
        have e0 := cellBelow HA.out.1 HQB.out
        by_cases hq2 : q < 2
        · have hqI : (q : Int) < 2 := by omega
          obtain ⟨z, hz1, hz2⟩ : ∃ z : Int, V2.cell? ⟨ga, q, none⟩ = some (.int .i64 z) ∧ V2.cell? ⟨gb, q, none⟩ = some (.int .i64 z) := by
            rcases (show q = 0 ∨ q = 1 by omega) with rfl | rfl
            · exact ⟨_, cellBelow HA.out.2.1 HQB.out, cellBelow HB.out.2.1 HQB.out⟩
            · exact ⟨_, cellBelow HA.out.2.2 HQB.out, cellBelow HB.out.2.2 HQB.out⟩
          have e1 := cellBelow HB.out.1 HQB.out
          haveI := cls_some V2
          have f0 : ∀ u : Cl V2, u.x.cell? ⟨g1, i, none⟩ = some (.slice (some ⟨ga, 0, none⟩) 2 2) := fun u => cellBelow e0 u.h
          have f1 : ∀ u : Cl V2, u.x.cell? ⟨g2, i, none⟩ = some (.slice (some ⟨gb, 0, none⟩) 2 2) := fun u => cellBelow e1 u.h
          have f2 : ∀ u : Cl V2, u.x.cell? ⟨ga, q, none⟩ = some (.int .i64 z) := fun u => cellBelow hz1 u.h
          have f3 : ∀ u : Cl V2, u.x.cell? ⟨gb, q, none⟩ = some (.int .i64 z) := fun u => cellBelow hz2 u.h
          clear hz1 hz2 e1
          go_wp2_with fail
          refine wp_region_cls (by kernel_rfl) ?_
          iterate 15 (go_big_quiet_step (fail))
          refine wpQuiet_nil ?_
          intro w8 hw8
          obtain ⟨u8, rfl⟩ := hw8
          have HU := Lib.hid (bstep HQB.out u8.h)
          obtain ⟨W8, hW8⟩ : ∃ U, u8.x = U := ⟨_, rfl⟩
          rw [hW8] at HU ⊢
          clear hW8 f0 f1 f2 f3 this u8
          go_wp2_with fail
          go_roundg (2 - q)
          case measure => have := HQG.out; omega
          case rel => exact ⟨q + 1, by go_num, by omega, by omega, HU.out⟩
        · obtain rfl : q = 2 := by omega
          go_wp2_with fail
          go_roundg (m - i)
          case measure => have := HIG.out; omega
          case rel => exact ⟨i + 1, by go_num, by omega, by omega, bstep HIB.out HQB.out⟩
    · obtain rfl : i = m := by omega
      have hB : decide ((i : Int) < (i : Int)) = false := by simp
      go_wp2
      go_ret
      exact ⟨rfl, HIB.out⟩
set_option maxRecDepth 100000 in
theorem rsame_nil (w : World) : Calls Try.prog 29 #[.slice none 0 0, .slice none 0 0] w fun e w' => e = .returned (.bool true) ∧ Below w.heap.size w w' := by
  go_enter Try.func29, Try.ntmps29
  go_wp2_with fail
  go_loopg [5] 1 (fun gg v5 wr => v5 = .int .i64 0 ∧ wr = w)
  case atStart => exact ⟨rfl, rfl⟩
  case round =>
    obtain ⟨rfl, rfl⟩ := hrel
    go_wp2
    go_ret
    exact ⟨rfl, Below.refl _ _⟩
end Go.Proofs.Gv

namespace Go.Proofs.Gv
open Go Go.RowKit Go.Maps

set_option maxRecDepth 100000 in
set_option maxHeartbeats 4000000 in
theorem rPenalty39_any (cap : Nat) (a : Option Addr) (L : List (Bool × ByteArray)) (m : Int) (hc : L.length ≤ cap) (hcm : cap ≤ maxLen) (h12 : L.length ≤ 12 ∨ 64 < L.length) (hz : ∀ x ∈ L, x.2.size ≤ 8) (hm : (Lit.int .i64 m).wf = true) (w : World) (hSl : Sl w a L) :
    Calls Try.prog 26 #[.slice a L.length cap, .int .i64 m] w (LPn L m w) := by
  have HCS := Lib.hid (fun W (hb : Below w.heap.size w W) => rCost39_any cap a L m hc hcm h12 hz hm W (hSl.below hb))
  have hb1 : Below w.heap.size w (w.alloc (.cells #[.bool false, .string ⟨#[]⟩] 29)) := (Below.refl _ _).alloc (Nat.le_refl _) _
  have bR := BC.new w w.heap.size #[.bool false, .string ⟨#[]⟩] 29 rfl
  obtain ⟨p, hp⟩ : ∃ p, w.heap.size = p := ⟨_, rfl⟩
  obtain ⟨X, hX⟩ : ∃ X, w.alloc (.cells #[.bool false, .string ⟨#[]⟩] 29) = X := ⟨_, rfl⟩
  rw [hX] at hb1 bR
  rw [hp] at bR
  have HBX := Lib.hid hb1
  have HBR := Lib.hid bR
  have HPP := Lib.hid hp
  have HC1 := Lib.hid (HCS.out X hb1)
  clear hb1 bR
  by_cases h0 : ¬ limE L m = 0
  · obtain ⟨E, hE⟩ : ∃ E, limE L m = E := ⟨_, rfl⟩
    have HE := Lib.hid hE
    unfold LCs at HC1
    rw [hE] at HC1 h0
    have hne : (E != 0) = true := by simpa using h0
    have HN := Lib.hid h0
    clear h0 hE hSl hz
    go_enter Try.func26, Try.ntmps26
    go_wp2_with fail
    refine HC1.out.mono ?_
    rintro e w1 ⟨he, -, hb⟩
    obtain rfl := he HN.out
    have b1 := HBR.out.below hb
    have HB := Lib.hid (bstep HBX.out hb)
    have t0 := b1.at 0 _ rfl
    have t1 := b1.at 1 _ rfl
    have z0 := b1.z 0 (by simp)
    have z1 := b1.z 1 (by simp)
    have hlt : p < w1.heap.size := b1.lt
    have bS := b1.set2 0 1 (.bool false) (.string ⟨#[]⟩) (by simp) (by simp)
    have s0 := bS.at 0 _ rfl
    have s1 := bS.at 1 _ rfl
    have bA := bS.alloc (.cells #[.bool false, .string ⟨#[]⟩] 29)
    have r0 := bA.at 0 _ rfl
    have r1 := bA.at 1 _ rfl
    have hBS := (HB.out.setCell (p := ⟨p, 0, none⟩) (by have := HPP.out; show w.heap.size ≤ p; omega) (.bool false)).setCell (p := ⟨p, 1, none⟩) (by have := HPP.out; show w.heap.size ≤ p; omega) (.string ⟨#[]⟩)
    have HBY := Lib.hid (hBS.alloc hBS.size (.cells #[.bool false, .string ⟨#[]⟩] 29))
    clear hb b1 bS bA hBS he
    go_wp2
    refine bodyPost_ret (v := .tuple #[.agg #[.bool false, .string ⟨#[]⟩], .int .i64 E]) (by simp [results, Try.results26, go_sem, s0, s1, r0, r1, hlt]) rfl ?_
    unfold LPn
    rw [HE.out]
    exact ⟨fun _ => rfl, fun h => absurd h HN.out, HBY.out⟩
  · have h0 := Decidable.not_not.1 h0
    obtain ⟨hck, m, rfl, hk1, hk64, hk2⟩ := limE_ok h0
    obtain ⟨h2, h64, Ws, hWs⟩ := chkW_ok hck
    obtain rfl : L = VL Ws := hWs
    have HL0 := Lib.hid h0
    have HLE := Lib.hid (fun W (hb : Below w.heap.size w W) => rLen_any cap a (VL Ws) 2 (by decide) (Nat.le_trans hc hcm) h12 hz W (hSl.below hb))
    have HCO := Lib.hid (fun (v : Value) W (hb : Below w.heap.size w W) (hv : RowAt W v (intsV ((lenH 2 Ws).map fun (k : Nat) => (k : Int)))) => rCost38_any cap a (VL Ws) v ((lenH 2 Ws).map fun (k : Nat) => (k : Int)) (Nat.le_trans hc hcm) (by rw [List.length_map, lenH_len]; unfold maxLen; rw [VL_len] at h64; omega) (fun x hx => Nat.le_trans (hz x hx) (by decide)) W (hSl.below hb) hv)
    unfold RLn at HLE
    rw [rlnE_two, hck] at HLE
    rw [VL_len] at hc h2 h64 h12 hk2 HC1 HLE HCO ⊢
    rw [hce9 h2 h64 hck] at HCO
    have hcl := limC_lt (Ws := Ws) (k := m) (by omega) hk64 hk2 (VLlt9 hz)
    have hhl := hufC_lt (Ws := Ws) h2 h64 (VLlt9 hz)
    obtain ⟨c1, hc1⟩ : ∃ c, limC Ws m = c := ⟨_, rfl⟩
    obtain ⟨c2, hc2⟩ : ∃ c, hufC Ws = c := ⟨_, rfl⟩
    have HCC := Lib.hid (And.intro hc1 hc2)
    rw [hc1] at hcl
    rw [hc2] at hhl
    have HSB := Lib.hid (fun Y => rSub_any false false (mg c1) (mg c2) (c1 : Int) (c2 : Int) Y (VN_rp (N := 82) hcl (by decide)) (VN_rp (N := 136) hhl (by decide)) (Nat.le_trans (size_mg (n := c1) (k := 82) (Nat.lt_of_lt_of_le hcl (by decide))) (by decide)) (Nat.le_trans (size_mg (n := c2) (k := 136) (Nat.lt_of_lt_of_le hhl (by decide))) (by decide)))
    unfold RetI at HSB
    obtain ⟨n, hn⟩ : ∃ n, Ws.length = n := ⟨_, rfl⟩
    have HNN := Lib.hid hn
    rw [hn] at HC1 HLE HCO ⊢
    clear h0 hSl hz hn hc h12 hk2 hck hc1 hc2 hcl hhl h2 h64
    go_enter Try.func26, Try.ntmps26
    go_wp2_with fail
    refine HC1.out.mono ?_
    rintro e w1 ⟨-, he, hb⟩
    obtain ⟨Us, e1, rfl⟩ := he HL0.out
    obtain rfl := VLinj9 e1
    rw [Int.toNat_natCast, HCC.out.1]
    have hal : Below w1.heap.size w1 (w1.alloc (.cells #[.bool false, .string (mg c1)] 29)) := (Below.refl _ _).alloc (Nat.le_refl _) _
    have hst := hb.trans (hal.mono hb.size)
    have HB := Lib.hid (bstep HBX.out hst)
    have HBR3 := Lib.hid (HBR.out.below hst)
    have HB6 := Lib.hid (BC.new w1 w1.heap.size #[.bool false, .string (mg c1)] 29 rfl)
    clear hb hal hst he e1
    go_wp2_with fail
    obtain ⟨b6, hb6⟩ : ∃ b, w1.heap.size = b := ⟨_, rfl⟩
    rw [hb6] at HB6 ⊢
    obtain ⟨X3, hX3⟩ : ∃ X, w1.alloc (.cells #[.bool false, .string (mg c1)] 29) = X := ⟨_, rfl⟩
    rw [hX3] at HB HBR3 HB6 ⊢
    clear hX3 hb6
    refine (HLE.out X3 HB.out).mono ?_
    rintro e w3 ⟨-, hv, hb3⟩
    obtain ⟨Us, g, cc, e2, rfl, hbc, -, -⟩ := hv trivial
    obtain rfl := VLinj9 e2
    have hra : RowAt w3 (.slice (some ⟨g, 0, none⟩) n cc) (intsV ((lenH 2 Ws).map fun (k : Nat) => (k : Int))) := by
      rw [intsV_nat]
      refine ⟨some ⟨g, 0, none⟩, cc, by rw [natV_length, lenH_len, HNN.out], fun i x hi => ⟨g, rfl, ?_⟩⟩
      exact hbc.at i _ hi
    have HB3 := Lib.hid (bstep HB.out hb3)
    have HCX := Lib.hid (HCO.out _ w3 HB3.out hra)
    have HBR4 := Lib.hid (HBR3.out.below hb3)
    have HB64 := Lib.hid (HB6.out.below hb3)
    clear hv hbc hra hb3 e2
    rw [HNN.out]
    go_wp2_with fail
    refine HCX.out.mono ?_
    rintro e w4 ⟨⟨z, rfl, -, hz⟩, hb4⟩
    obtain ⟨Vs, ds, e3, e4, -, hzz⟩ := hz trivial
    obtain rfl := VLinj9 e3
    have hds : ds = lenH 2 Ws := by
      have h := congrArg (fun l : List Int => l.map Int.toNat) e4
      simp only [List.map_map] at h
      have e : ∀ l : List Nat, (l.map (Int.toNat ∘ fun (k : Nat) => (k : Int))) = l := fun l => (List.map_congr_left fun x _ => Int.toNat_natCast x).trans (List.map_id _)
      rw [e, e] at h
      exact h.symm
    subst hds
    have hzh : z = hufC Ws := hzz
    rw [HCC.out.2] at hzh
    subst hzh
    unfold VN
    have hal : Below w4.heap.size w4 (w4.alloc (.cells #[.bool false, .string (mg z)] 29)) := (Below.refl _ _).alloc (Nat.le_refl _) _
    have hst := hb4.trans (hal.mono hb4.size)
    have HB4 := Lib.hid (bstep HB3.out hst)
    have b1 := HBR4.out.below hst
    have b6c := HB64.out.below hst
    have b9 := BC.new w4 w4.heap.size #[.bool false, .string (mg z)] 29 rfl
    obtain ⟨q9, hq9⟩ : ∃ b, w4.heap.size = b := ⟨_, rfl⟩
    rw [hq9] at b9
    obtain ⟨X4, hX4⟩ : ∃ X, w4.alloc (.cells #[.bool false, .string (mg z)] 29) = X := ⟨_, rfl⟩
    rw [hX4] at HB4 b1 b6c b9
    have c0 := b6c.at 0 _ rfl
    have c1' := b6c.at 1 _ rfl
    have d0 := b9.at 0 _ rfl
    have d1 := b9.at 1 _ rfl
    have HBR5 := Lib.hid b1
    clear hz hzz e3 e4 hal hst hb4 b1 b6c b9
    go_wp2_with fail
    refine (HSB.out _).mono ?_
    rintro e w5 ⟨rfl, hb5⟩
    have b1 := HBR5.out.below hb5
    have HB5 := Lib.hid (bstep HB4.out hb5)
    obtain ⟨sb, hsb⟩ : ∃ s, sgn ((c1 : Int) - (z : Int)) = s := ⟨_, rfl⟩
    obtain ⟨ub, hub⟩ : ∃ s, mg ((c1 : Int) - (z : Int)).natAbs = s := ⟨_, rfl⟩
    have HSU := Lib.hid (And.intro hsb hub)
    rw [hsb, hub]
    have t0 := b1.at 0 _ rfl
    have t1 := b1.at 1 _ rfl
    have z0 := b1.z 0 (by simp)
    have z1 := b1.z 1 (by simp)
    have bS := b1.set2 0 1 (.bool sb) (.string ub) (by simp) (by simp)
    have s0 := bS.at 0 _ rfl
    have s1 := bS.at 1 _ rfl
    have HBY := Lib.hid ((HB5.out.setCell (p := ⟨p, 0, none⟩) (by have := HPP.out; show w.heap.size ≤ p; omega) (.bool sb)).setCell (p := ⟨p, 1, none⟩) (by have := HPP.out; show w.heap.size ≤ p; omega) (.string ub))
    clear hb5 b1 bS c0 c1' d0 d1 hsb hub
    go_wp2
    refine bodyPost_ret (v := .tuple #[.agg #[.bool sb, .string ub], .int .i64 0]) (by simp [results, Try.results26, go_sem, s0, s1]) rfl ?_
    unfold LPn
    refine ⟨fun h => absurd HL0.out h, fun _ => ⟨Ws, rfl, ?_⟩, HBY.out⟩
    rw [Int.toNat_natCast, HCC.out.1, HCC.out.2, HSU.out.1, HSU.out.2]
end Go.Proofs.Gv
