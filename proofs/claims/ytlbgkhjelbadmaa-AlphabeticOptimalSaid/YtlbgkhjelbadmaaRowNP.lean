/- The law AlphabeticOptimal. -/
import Derived.Test.YtlbgkhjelbadmaaAcsP
import Derived.Test.YtlbgkhjelbadmaaRowS
import Derived.Test.YtlbgkhjelbadmaaAcl
set_option linter.unusedSimpArgs false
set_option linter.unusedVariables false
namespace Go.Proofs.Gv
open Go Go.RowKit Go.Maps

set_option maxRecDepth 100000 in
set_option maxHeartbeats 4000000 in
theorem law_opt (w : World) (a : Option Addr) (cap : Nat) (L : List (Bool × ByteArray)) (hL : L.length ≤ maxLen) (hz : ∀ x ∈ L, x.2.size ≤ maxLen) (hS : Sl w a L) (ha : a = none → L = [] ∧ cap = 0) (hc : L.length ≤ cap ∧ cap ≤ maxLen)
    (b : Option Addr) (cb : Nat) (M : List Int) (hbc : M.length ≤ cb) (hbm : cb ≤ maxLen) (hwf : ∀ x ∈ M, (Lit.int .i64 x).wf = true) (hT : NSl w b M) (hb : b = none → M = [] ∧ cb = 0) :
    Calls Try.prog 4 #[.slice a L.length cap, .slice b M.length cb] w fun e w' => e = .returned (.bool true) ∧ Below w.heap.size w w' := by
  have HV := Lib.hid (valid_any a cap L hL hz w hS)
  have HAW := Lib.hid (fun W => awake40_any W)
  by_cases hv : vldA L = true
  case neg =>
    have hv' : vldA L = false := by simpa using hv
    rw [hv'] at HV
    clear hv hv' hS hT hwf hb ha hz hL hc hbc hbm
    go_enter Try.func4, Try.ntmps4
    go_wp2_with fail
    refine HV.out.mono ?_
    rintro e w1 ⟨rfl, hb1⟩
    go_wp2_with fail
    refine (HAW.out _).mono ?_
    rintro e w2 ⟨rfl, hb2⟩
    go_wp2
    go_ret
    exact ⟨rfl, bstep hb1 hb2⟩
  case pos =>
    rw [hv] at HV
    obtain ⟨Ws, rfl, h2, h6, hck, hz8⟩ := vld_ok hv
    have hzz := VLlt hz8
    obtain ⟨hfb, hcb, hdl, hd64⟩ := fit_best h2 (by omega)
    rw [VL_len] at hc HV ⊢
    have HLN := Lib.hid (fun W (h : Below w.heap.size w W) => len_ok a cap Ws h2 (by omega) hc.1 hc.2 hz8 W (hS.below h))
    have HCS := Lib.hid (fun W (h : Below w.heap.size w W) => cost_ok a cap Ws h2 (by omega) hc.1 hc.2 hz8 W (hS.below h))
    have HTO := Lib.hid (fun (bb : Option Addr) (cc : Nat) (ds : List Nat) (hl : ds.length = Ws.length) (h64 : ∀ d ∈ ds, d ≤ 64) W (h : Below w.heap.size w W) (hn : NSl W bb (inL ds)) => total_any a bb cap cc 64 Ws ds hl (by omega) hzz (fun d hd => Nat.lt_of_le_of_lt (h64 d hd) (by decide)) (by decide) W (hS.below h) hn)
    have HFT := Lib.hid (fun (bb : Option Addr) (cc : Nat) (N : List Int) (h1 : N.length ≤ cc) (h2 : cc ≤ maxLen) W (hn : NSl W bb N) => (Fits_al bb cc N h1 h2 W hn).mono fun e w' h => h.out2)
    have HT := Lib.hid hT
    have HMB := Lib.hid (And.intro hbc hbm)
    have HAL := Lib.hid (alc_lt h2 (by omega) hzz)
    obtain ⟨l, hl⟩ : ∃ l, alD Ws.length Ws = l := ⟨_, rfl⟩
    rw [hl] at HLN hfb hcb hdl hd64
    obtain ⟨n, hn⟩ : ∃ n, Ws.length = n := ⟨_, rfl⟩
    have HNN := Lib.hid hn
    have HFB := Lib.hid hfb
    have HCB := Lib.hid hcb
    have HDL := Lib.hid hdl
    have HD6 := Lib.hid hd64
    have HLE := Lib.hid (show lenE (inL l) = 0 from by
      have := hfb
      unfold fitO at this
      simp only [Bool.and_eq_true, beq_iff_eq] at this
      exact this.1)
    have HOT := Lib.hid (fun (h : M.length = Ws.length) (hf : fitO M = true) => show ∃ ds, M = inL ds ∧ ds.length = Ws.length ∧ (∀ d ∈ ds, d ≤ 64) ∧ alc Ws ≤ csum Ws ds ∧ csum Ws ds < 2 ^ 136 from by
      have h0 : lenE M = 0 := by
        have := hf
        unfold fitO at this
        simp only [Bool.and_eq_true, beq_iff_eq] at this
        exact this.1
      obtain ⟨-, -, ds, rfl, hds⟩ := lenE_ok h0
      have hl2 : ds.length = Ws.length := by rw [← h]; exact (inL_len ds).symm
      exact ⟨ds, rfl, hl2, fun d hd => (hds d hd).2, fit_cost (by omega) hl2 hf, csum_lt (N := 64) hl2 hzz (fun d hd => Nat.lt_of_le_of_lt (hds d hd).2 (by decide)) (by omega)⟩)
    rw [hn] at HLN HCS HTO HV
    have hnn : ((n : Int) != (n : Int)) = false := by simp
    rw [hn]
    clear hn hl hfb hcb hdl hd64 hck hz8 hzz hS hT hwf hb ha hz hL hc hbc hbm hv h2 h6
    go_enter Try.func4, Try.ntmps4
    go_wp2_with fail
    refine HV.out.mono ?_
    rintro e w1 ⟨rfl, hb1⟩
    have HB1 := Lib.hid hb1
    clear hb1 HV
    go_wp2_with fail
    refine (HLN.out w1 HB1.out).mono ?_
    rintro e w2 ⟨v2, rfl, hn2, hb2⟩
    have HN2 := Lib.hid hn2
    have HB2 := Lib.hid (bstep HB1.out hb2)
    clear hn2 hb2 HB1 HLN
    go_wp2_with fail
    refine (HCS.out w2 HB2.out).mono ?_
    rintro e w3 ⟨rfl, hb3⟩
    obtain ⟨C, hC⟩ : ∃ C, alc Ws = C := ⟨_, rfl⟩
    rw [hC]
    have HC := Lib.hid hC
    have HP := Lib.hid (BC.new w3 w3.heap.size #[.bool false, .string (mg C)] 37 rfl)
    have HA := Lib.hid (show Below w3.heap.size w3 (w3.alloc (.cells #[.bool false, .string (mg C)] 37)) from (Below.refl _ w3).alloc (Nat.le_refl _) _)
    have HN3 := Lib.hid ((HN2.out.below hb3).below HA.out)
    have HB3 := Lib.hid (bstep (bstep HB2.out hb3) HA.out)
    clear hb3 hC HB2 HN2 HCS
    obtain ⟨g, cl, rfl, hg1, hg2, hgn⟩ := HN3.out.nsl
    have HGN := Lib.hid hgn
    have HG12 := Lib.hid (And.intro hg1 hg2)
    rw [HDL.out, HNN.out]
    clear hg1 hg2 hgn
    go_wp2_with fail
    obtain ⟨X, hX⟩ : ∃ X, w3.alloc (.cells #[.bool false, .string (mg C)] 37) = X := ⟨_, rfl⟩
    rw [hX] at HP HN3 HB3 HGN ⊢
    obtain ⟨B, hB⟩ : ∃ B, w3.heap.size = B := ⟨_, rfl⟩
    rw [hB] at HP ⊢
    clear hB hX HA
    have HTL := Lib.hid (fun Y (h : Below X.heap.size X Y) => HTO.out (some ⟨g, 0, none⟩) cl l (by rw [HDL.out, HNN.out]) HD6.out Y (bstep HB3.out h) (HGN.out.below h))
    rw [HCB.out, HC.out, HDL.out, HNN.out] at HTL
    unfold VN at HTL
    haveI := cls_some X
    have fq : ∀ u : Cl X, u.x.cell? ⟨B, 0, none⟩ = some (.bool false) := fun u => (HP.out.below u.h).at 0 _ rfl
    have fr : ∀ u : Cl X, u.x.cell? ⟨B, 1, none⟩ = some (.string (mg C)) := fun u => (HP.out.below u.h).at 1 _ rfl
    have hq1 : eqI false (mg C) false (mg C) = true := eq_mg C
    have h00 : ((0 : Int) != 0) = false := rfl
    refine wp_region_cls (by kernel_rfl) ?_
    iterate 16 (go_big_quiet_step (fail))
    go_big_quiet_step ((go_at_call 19; exact quiet_clsB (Below.refl _ _) HTL.out _))
    iterate 3 (go_big_quiet_step (fail))
    refine wpQuiet_nil ?_
    intro w4 hw4
    obtain ⟨u4, rfl⟩ := hw4
    have HB4 := Lib.hid (bstep HB3.out u4.h)
    have HG4 := Lib.hid (HGN.out.below u4.h)
    have HP4 := Lib.hid (HP.out.below u4.h)
    obtain ⟨Z, hZ⟩ : ∃ Z, u4.x = Z := ⟨_, rfl⟩
    rw [hZ] at HB4 HG4 HP4 ⊢
    clear hZ u4 fq fr this HTL HGN HP HN3
    clear HB3
    have HX := Lib.hid (HFT.out _ cl (inL l) (by rw [inL_len]; exact HG12.out.1) HG12.out.2 Z HG4.out)
    rw [inL_len, HDL.out, HNN.out, HFB.out, HLE.out] at HX
    go_wp2_with fail
    refine HX.out.mono ?_
    rintro e w5 ⟨rfl, hb5⟩
    have HB5 := Lib.hid (bstep HB4.out hb5)
    have HP5 := Lib.hid (HP4.out.below hb5)
    clear hb5 HX HP4 HG4 HB4
    by_cases hml : M.length = n
    case neg =>
      have hne : ((M.length : Int) != (n : Int)) = true := by simp; omega
      have hnN : ¬ (M.length : Int) = n := by omega
      go_wp2_with fail
      refine (HAW.out _).mono ?_
      rintro e w6 ⟨rfl, hb6⟩
      go_wp2
      go_ret
      exact ⟨rfl, bstep HB5.out hb6⟩
    case pos =>
      have HX := Lib.hid (HFT.out b cb M HMB.out.1 HMB.out.2 w5 (HT.out.below HB5.out))
      have HOK := Lib.hid (HOT.out (by rw [hml, HNN.out]))
      rw [hml] at HX
      have HML := Lib.hid hml
      obtain ⟨F, hF⟩ : ∃ F, fitO M = F := ⟨_, rfl⟩
      obtain ⟨E, hE⟩ : ∃ E, lenE M = E := ⟨_, rfl⟩
      have HFE := Lib.hid (show F = true → E = 0 from fun h => by
        have := hF
        rw [h] at this
        unfold fitO at this
        simp only [Bool.and_eq_true, beq_iff_eq] at this
        rw [← hE]
        exact this.1)
      rw [hF, hE] at HX
      rw [hF] at HOK
      clear hF hE
      rw [hml]
      clear hml
      go_wp2_with fail
      refine HX.out.mono ?_
      rintro e w6 ⟨rfl, hb6⟩
      have HB6 := Lib.hid (bstep HB5.out hb6)
      have HP6 := Lib.hid (HP5.out.below hb6)
      clear hb6 HX HP5 HB5
      by_cases hE : E = 0
      case neg =>
        have hne : (E != 0) = true := by simpa using hE
        have hF : F = false := by
          cases F with
          | false => rfl
          | true => exact absurd (HFE.out rfl) hE
        subst hF
        clear hE
        go_wp2_with fail
        refine (HAW.out _).mono ?_
        rintro e w7 ⟨rfl, hb7⟩
        go_wp2
        go_ret
        exact ⟨rfl, bstep HB6.out hb7⟩
      case pos =>
        subst hE
        cases F with
        | false =>
          go_wp2_with fail
          haveI := cls_some w6
          refine wp_region_cls (by kernel_rfl) ?_
          iterate 11 (go_big_quiet_step (fail))
          go_big_quiet_step ((go_at_call 10; exact quiet_cls HAW.out _))
          iterate 2 (go_big_quiet_step (fail))
          refine wpQuiet_nil ?_
          intro w7 hw7
          obtain ⟨u7, rfl⟩ := hw7
          go_wp2
          go_ret
          exact ⟨rfl, bstep HB6.out u7.h⟩
        | true =>
          obtain ⟨ds, hM, hdl, hd6, hle, hlt⟩ := HOK.out rfl
          have HTM := Lib.hid (fun Y (h : Below w6.heap.size w6 Y) => HTO.out b cb ds (by rw [hdl, HNN.out]) hd6 Y (bstep HB6.out h) (by rw [← hM]; exact HT.out.below (bstep HB6.out h)))
          rw [hdl, HNN.out] at HTM
          unfold VN at HTM
          rw [HC.out] at hle
          have HCL := HAL.out
          rw [HC.out] at HCL
          obtain ⟨D, hD⟩ : ∃ D, csum Ws ds = D := ⟨_, rfl⟩
          rw [hD] at hle hlt HTM
          have HCM := Lib.hid (fun Y => cCmpN (x := D) (d := C) 136 136 hlt HCL (by decide) (by decide) Y)
          obtain ⟨q, hq⟩ : ∃ q, cmpI (D : Int) (C : Int) = q := ⟨_, rfl⟩
          have hq0 : 0 ≤ q := by
            rw [← hq]
            unfold cmpI
            rw [if_neg (by omega)]
            split <;> omega
          rw [hq] at HCM
          clear hq hD hle hlt HCL hM hd6 hdl HOK HFE
          go_wp2_with fail
          haveI := cls_some w6
          have fq : ∀ u : Cl w6, u.x.cell? ⟨B, 0, none⟩ = some (.bool false) := fun u => (HP6.out.below u.h).at 0 _ rfl
          have fr : ∀ u : Cl w6, u.x.cell? ⟨B, 1, none⟩ = some (.string (mg C)) := fun u => (HP6.out.below u.h).at 1 _ rfl
          refine wp_region_cls (by kernel_rfl) ?_
          iterate 5 (go_big_quiet_step (fail))
          go_big_quiet_step ((go_at_call 19; exact quiet_clsB (Below.refl _ _) HTM.out _))
          iterate 1 (go_big_quiet_step (fail))
          go_big_quiet_step ((go_at_call 20; exact quiet_cls HCM.out _))
          iterate 3 (go_big_quiet_step (fail))
          go_big_quiet_step ((go_at_call 10; exact quiet_cls HAW.out _))
          iterate 2 (go_big_quiet_step (fail))
          refine wpQuiet_nil ?_
          intro w7 hw7
          obtain ⟨u7, rfl⟩ := hw7
          go_wp2
          go_ret
          exact ⟨rfl, bstep HB6.out u7.h⟩
end Go.Proofs.Gv

namespace Go.Proofs.Gv
open Go Go.RowKit Go.ChangeShapes Go.WideShapes Go.Deep

theorem cellsN : Try.prog.cellsOf 3 = 1 := by kernel_rfl
set_option maxRecDepth 100000 in
theorem open_Nums {H : Type} {enc : TypeId × Value → H} {W : World} {r : Reach} {b0 : Nat} {v : Value} {d : DataW H} {p : List MemPlace} (hval : Value.okWide Try.prog W r b0 22 v)
    (h : DataW.Trod enc Try.prog W 0 (fun _ => true) true 22 v d p) :
    ∃ (a : Option Addr) (L : List Int) (cap : Nat), v = .slice a L.length cap ∧ L.length ≤ cap ∧ cap ≤ maxLen ∧ (∀ x ∈ L, (Lit.int .i64 x).wf = true) ∧ NSl W a L ∧ (a = none → L = [] ∧ cap = 0) := by
  obtain ⟨a, len, cap, rfl⟩ := okWide_slice Try.underlying22 hval
  obtain ⟨fuel, hf⟩ := h
  rcases open_slice Try.underlying22 hf with ⟨hcs, -⟩ | ⟨A, len', cap', m, n, D, Pl, hcs, -, hl, hm, hmm, -, hi⟩
  · simp [Value.cells] at hcs
    obtain ⟨rfl, rfl, rfl⟩ := hcs
    exact ⟨none, [], 0, rfl, Nat.le_refl _, Nat.zero_le _, fun x hx => (by cases hx), fun i x hi => (by simp at hi), fun _ => ⟨rfl, rfl⟩⟩
  · simp [Value.cells] at hcs
    obtain ⟨rfl, rfl, rfl⟩ := hcs
    simp only [if_true] at hmm
    have key : ∀ i, i < len → ∃ x : Int, W.cell? (A.add i) = some (.int .i64 x) ∧ (Lit.int .i64 x).wf = true := fun i hil => by
      obtain ⟨cs', hc, t0⟩ := hi i (by omega)
      obtain ⟨n0, e0, -, w0⟩ := DataW.trod_int Try.underlying3 t0
      subst e0
      rw [cellsN] at hc
      obtain ⟨_, hcl, hat⟩ := World.cells?_some hc
      have h0 := hat 0 (by decide)
      refine ⟨n0, ?_, w0⟩
      rw [Nat.mul_one] at h0
      simpa [Addr.add] using h0
    obtain ⟨L, hL, hR⟩ := list_of key
    refine ⟨some A, L, cap, by rw [hL], by omega, by omega, fun x hx => ?_, fun i x hi => ⟨A, rfl, (hR i x hi).1⟩, fun e => (by cases e)⟩
    obtain ⟨i, hi⟩ := List.getElem?_of_mem hx
    exact (hR i x hi).2
end Go.Proofs.Gv
