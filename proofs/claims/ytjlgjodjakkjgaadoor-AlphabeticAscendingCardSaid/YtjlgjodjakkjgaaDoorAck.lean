/- alphabetic.Check at weights that are fine. -/
import Derived.Test.YtjlgjodjakkjgaaDoorAeq
import Derived.Test.YtjlgjodjakkjgaaDoorAcf
import Derived.Test.YtjlgjodjakkjgaaDoorHctnP
set_option linter.unusedSimpArgs false
set_option linter.unusedVariables false
namespace Go.Proofs.Gv
open Go Go.RowKit Go.Maps

theorem chkV_R : ∀ Ws : List Nat, chkR (VL Ws) = 0
  | [] => rfl
  | z :: r => by
    have hc : Canon false (mg z) := by
      have := canon_V (z : Int)
      rwa [Int.natAbs_natCast, show sgn (z : Int) = false from decide_eq_false (by omega)] at this
    have hi : ¬ iv false (mg z) < 0 := by unfold iv; rw [if_neg (by decide)]; omega
    have ih := chkV_R r
    show chkR ((false, mg z) :: VL r) = 0
    unfold chkR
    rw [if_pos hc, if_neg hi]
    exact ih
theorem chkV {Ws : List Nat} (h1 : 2 ≤ Ws.length) (h2 : Ws.length ≤ 64) : chkW (VL Ws) = 0 := by
  unfold chkW
  rw [VL_len, if_neg (by omega), if_neg (by omega), chkV_R]
def inL (ds : List Nat) : List Int := ds.map fun (d : Nat) => (d : Int)
theorem inL_len (ds : List Nat) : (inL ds).length = ds.length := List.length_map _
theorem NR2.nsl {W : World} {v : Value} {ds : List Nat} (h : NR2 W v ds) : ∃ g c, v = .slice (some ⟨g, 0, none⟩) ds.length c ∧ ds.length ≤ c ∧ c ≤ maxLen ∧ NSl W (some ⟨g, 0, none⟩) (inL ds) := by
  obtain ⟨g, c, rfl, h1, h2, h3⟩ := h
  refine ⟨g, c, rfl, h1, h2, fun i x hi => ⟨_, rfl, ?_⟩⟩
  rw [addr0]
  unfold inL at hi
  rw [List.getElem?_map] at hi
  cases hd : ds[i]? with
  | none => rw [hd] at hi; cases hi
  | some d => rw [hd] at hi; cases hi; exact h3 i d hd
/-- Whether lengths fit an ordered code. -/
def fitO (L : List Int) : Bool := lenE L == 0 && (wrd (L.map Int.toNat)).isSome
def rowsO (n : Nat) (M : List (List (Bool × ByteArray))) : Bool := (List.range n).all fun j => (M.getD j []).length == n - j
/-- What Check answers at weights that are fine. -/
def chkB (Ws : List Nat) (M : List (List (Bool × ByteArray))) (ds : List Nat) : Int :=
  if M.length ≠ Ws.length ∨ ds.length ≠ Ws.length then 11 else if rowsO Ws.length M = false then 11 else if ¬ M = tabM Ws then 23 else if fitO (inL ds) = false then 23 else if csum Ws ds ≠ alc Ws then 23 else 0
theorem FtP.out {L : List Int} {w : World} {e : Ending} {w' : World} (h : FtP L w e w') : ∃ (b : Bool) (x : Int), e = .returned (.tuple #[.bool b, .int .i64 x]) ∧ fitO L = (x == 0 && b) ∧ Below w.heap.size w w' := by
  obtain ⟨h, hb⟩ := h
  by_cases h0 : lenE L ≠ 0
  · rw [if_pos h0] at h
    refine ⟨_, _, h, ?_, hb⟩
    unfold fitO
    rw [Bool.and_false, beq_eq_false_iff_ne.2 h0]
    rfl
  · rw [if_neg h0] at h
    have e0 : lenE L = 0 := Decidable.not_not.1 h0
    cases hw : wrd (L.map Int.toNat) with
    | none => rw [hw] at h; exact ⟨_, _, h, by unfold fitO; rw [hw, e0]; rfl, hb⟩
    | some ws => rw [hw] at h; exact ⟨_, _, h, by unfold fitO; rw [hw, e0]; rfl, hb⟩
section
variable (A : Addr) (cap : Nat) (Ws : List Nat) (h2 : 2 ≤ Ws.length) (h64 : Ws.length ≤ 64) (hc : Ws.length ≤ cap) (hcm : cap ≤ maxLen) (hz : ∀ z ∈ Ws, z < 2 ^ 64)
include h2 h64 hc hcm hz
omit hc hcm in
theorem checkV_any (w : World) (hS : Sl w (some A) (VL Ws)) :
    Calls Tryd.prog 29 #[.slice (some A) Ws.length cap] w fun e w' => e = .returned (.int .i64 0) ∧ Below w.heap.size w w' := by
  have h := checkA_any (some A) cap (VL Ws) w (by rw [VL_len]; unfold maxLen; omega) (fun x hx => by
    obtain ⟨z, hm, rfl⟩ := List.mem_map.1 hx
    exact Nat.le_trans (size_mg (n := z) (k := 8) (Nat.lt_of_lt_of_le (hz z hm) (by decide))) (by decide)) hS
  rw [chkV h2 h64, VL_len] at h
  exact h
variable (M : List (List (Bool × ByteArray))) (hM : M.length ≤ 1000) (hr : ∀ r ∈ M, r.length ≤ 1000) (ds : List Nat) (hdb : ∀ d ∈ ds, d < 2 ^ 62)
include hM hr hdb
set_option maxRecDepth 100000 in
set_option maxHeartbeats 4000000 in
theorem check_ok (T lv : Value) (w : World) (hS : Sl w (some A) (VL Ws)) (hT : RwS w T M) (hl : NR2 w lv ds) :
    Calls Tryd.prog 18 #[.slice (some A) Ws.length cap, T, lv] w fun e w' => e = .returned (.int .i64 (chkB Ws M ds)) ∧ Below w.heap.size w w' := by
  have HCK := Lib.hid (checkV_any A cap Ws h2 h64 hz w hS)
  have HT := Lib.hid hT
  have HL := Lib.hid hl
  have HS := Lib.hid hS
  obtain ⟨G, cG, rfl, -, -, hat⟩ := hT
  obtain ⟨gl, cl, rfl, hlc, hlm, hlt⟩ := hl
  have HAT := Lib.hid hat
  have HLT := Lib.hid hlt
  have HR := Lib.hid hr
  have HDB := Lib.hid hdb
  have HZ := Lib.hid hz
  clear hat hlt hr hdb hz hS
  by_cases hbad : M.length ≠ Ws.length ∨ ds.length ≠ Ws.length
  · have HE := Lib.hid (show chkB Ws M ds = 11 from if_pos hbad)
    by_cases hm : M.length = Ws.length
    · have hB1 : ((M.length : Int) != (Ws.length : Int)) = false := by simp [hm]
      have hd1 : ds.length ≠ Ws.length := by omega
      have hB2 : ((ds.length : Int) != (Ws.length : Int)) = true := by simp; omega
      have hN2 : ¬ (ds.length : Int) = Ws.length := by omega
      clear hbad hd1
      go_enter Tryd.func18, Tryd.ntmps18
      go_wp2_with fail
      refine HCK.out.mono ?_
      rintro e w1 ⟨rfl, hb⟩
      rw [hm]
      clear hm hB1
      go_wp2
      go_ret
      exact ⟨by rw [HE.out]; rfl, hb⟩
    · have hB1 : ((M.length : Int) != (Ws.length : Int)) = true := by simp; omega
      have hN1 : ¬ (M.length : Int) = Ws.length := by omega
      clear hbad hm
      go_enter Tryd.func18, Tryd.ntmps18
      go_wp2_with fail
      refine HCK.out.mono ?_
      rintro e w1 ⟨rfl, hb⟩
      go_wp2
      go_ret
      exact ⟨by rw [HE.out]; rfl, hb⟩
  · obtain ⟨hm, hdl⟩ : M.length = Ws.length ∧ ds.length = Ws.length := by omega
    have HBD := Lib.hid hbad
    have HTB := Lib.hid (fun W (hb : Below w.heap.size w W) => table_any A cap Ws h2 h64 hc hcm HZ.out W (HS.out.below hb))
    have HEF := Lib.hid (fun (v : Value) (N : List (List (Bool × ByteArray))) W (hb : Below w.heap.size w W) (hv : RwS W v N) => eqFn_any _ v M N hM HR.out W (HT.out.below hb) hv)
    have HFT := Lib.hid (fun W (hb : Below w.heap.size w W) => by
      obtain ⟨g', c', e', -, -, hh⟩ := (HL.out.below hb).nsl
      cases e'
      have := Fits_al (some ⟨gl, 0, none⟩) cl (inL ds) (by rw [inL_len]; exact hlc) hlm W hh
      rw [inL_len] at this
      exact this)
    have HMM := Lib.hid hm
    have HDL := Lib.hid hdl
    obtain ⟨n, hn⟩ : ∃ n, Ws.length = n := ⟨_, rfl⟩
    have HNN := Lib.hid hn
    rw [hdl, hn] at hlc HFT ⊢
    rw [hm, hn] at HEF ⊢
    rw [hn] at HCK HTB h2 h64 hc
    clear hm hdl hbad hM hn
    go_enter Tryd.func18, Tryd.ntmps18
    go_wp2_with fail
    refine HCK.out.mono ?_
    rintro e w1 ⟨rfl, hb⟩
    have HB1 := Lib.hid hb
    clear hb HCK
    have hnn : ((n : Int) != (n : Int)) = false := by simp
    go_wp2
    go_loopg [35] (n + 1) (fun gg v35 wr => ∃ i : Nat, v35 = .int .i64 (i : Int) ∧ i ≤ n ∧ n - i < gg ∧ (∀ j, j < i → (M.getD j []).length = n - j) ∧ wr = w1)
    case atStart => exact ⟨0, rfl, Nat.zero_le _, by omega, fun j hj => by omega, rfl⟩
    case round =>
      obtain ⟨i, rfl, hi, hig, he, ew⟩ := hrel
      obtain rfl : w1 = wr := ew.symm
      have HG := Lib.hid hig
      have HE := Lib.hid he
      clear hig he
      by_cases hlt : i < n
      · have hltI : (i : Int) < n := by omega
        obtain ⟨x, hx⟩ : ∃ x, M[i]? = some x := ⟨M[i]'(by rw [HMM.out, HNN.out]; exact hlt), List.getElem?_eq_getElem _⟩
        obtain ⟨A1, c1, f1, -, -, -⟩ := HAT.out i x hx
        have g1 := (HB1.out.cell (World.block_lt_of_cell? _ _ f1)).trans f1
        have HX := Lib.hid hx
        obtain ⟨r, hr⟩ : ∃ r, n - i = r := ⟨_, rfl⟩
        have hrI : (n : Int) - (i : Int) = (r : Int) := by omega
        have HRR := Lib.hid hr
        clear f1 hx hr
        by_cases hxl : x.length = r
        · have HXL := Lib.hid hxl
          rw [hxl] at g1
          have hrr : ((r : Int) != (r : Int)) = false := by simp
          clear hxl
          go_wp2
          go_roundg (n - i)
          case rel =>
            refine ⟨i + 1, by go_num, by omega, by omega, fun j hj => ?_, rfl⟩
            by_cases hji : j = i
            · subst hji
              rw [List.getD_eq_getElem?_getD, HX.out, Option.getD_some, HXL.out, HRR.out]
            · exact HE.out j (by omega)
          case measure => have := HG.out; omega
        · have HXL := Lib.hid hxl
          have hrr : ((x.length : Int) != (r : Int)) = true := by simp; omega
          have hrN : ¬ (x.length : Int) = r := by omega
          have HKE := Lib.hid (show chkB Ws M ds = 11 from by
            unfold chkB
            rw [if_neg HBD.out, if_pos]
            unfold rowsO
            rw [HNN.out]
            cases h : (List.range n).all fun j => (M.getD j []).length == n - j with
            | false => rfl
            | true =>
              exfalso
              have := List.all_eq_true.1 h i (List.mem_range.2 hlt)
              rw [List.getD_eq_getElem?_getD, HX.out, Option.getD_some, beq_iff_eq, HRR.out] at this
              exact HXL.out this)
          clear hxl
          go_wp2
          go_ret
          exact ⟨by rw [HKE.out]; rfl, HB1.out⟩
      · obtain rfl : n = i := by omega
        have hB : decide ((n : Int) < n) = false := by simp
        have HRO := Lib.hid (show rowsO Ws.length M = true from by
          unfold rowsO
          rw [HNN.out]
          refine List.all_eq_true.2 fun j hj => ?_
          rw [beq_iff_eq]
          exact HE.out j (List.mem_range.1 hj))
        clear hlt HG HE
        go_wp2_with fail
        refine (HTB.out w1 HB1.out).mono ?_
        rintro e w2 ⟨v2, rfl, hr2, hb2⟩
        have HB2 := Lib.hid (bstep HB1.out hb2)
        have HE2 := Lib.hid (HEF.out v2 (tabM Ws) w2 HB2.out hr2)
        obtain ⟨q, hq⟩ : ∃ q, decide (M = tabM Ws) = q := ⟨_, rfl⟩
        have HQ := Lib.hid hq
        rw [hq] at HE2
        clear hr2 hb2 hq HB1 HTB HEF
        go_wp2_with fail
        refine HE2.out.mono ?_
        rintro e w3 ⟨rfl, hb3⟩
        have HB3 := Lib.hid (bstep HB2.out hb3)
        clear hb3 HE2 HB2
        cases q with
        | false =>
          have HKE := Lib.hid (show chkB Ws M ds = 23 from by
            unfold chkB
            rw [if_neg HBD.out, if_neg (by rw [HRO.out]; simp), if_pos (of_decide_eq_false HQ.out)])
          go_wp2
          go_ret
          exact ⟨by rw [HKE.out]; rfl, HB3.out⟩
        | true =>
          have HMT := Lib.hid (of_decide_eq_true HQ.out)
          have HF3 := Lib.hid (HFT.out w3 HB3.out)
          clear HQ HFT
          go_wp2_with fail
          refine HF3.out.mono ?_
          intro e w4 hq
          obtain ⟨fb, fx, rfl, hff, hb4⟩ := hq.out
          have HB4 := Lib.hid (bstep HB3.out hb4)
          have HFF := Lib.hid hff
          clear hb4 hff hq HF3 HB3
          by_cases hfx : fx = 0
          · subst hfx
            have h00 : ((0 : Int) != 0) = false := rfl
            cases fb with
            | false =>
              have HKE := Lib.hid (show chkB Ws M ds = 23 from by
                unfold chkB
                rw [if_neg HBD.out, if_neg (by rw [HRO.out]; simp), if_neg (fun h => h HMT.out), if_pos (by rw [HFF.out]; rfl)])
              go_wp2
              go_ret
              exact ⟨by rw [HKE.out]; rfl, HB4.out⟩
            | true =>
              have HKE := Lib.hid (show chkB Ws M ds = if csum Ws ds ≠ alc Ws then 23 else 0 from by
                unfold chkB
                rw [if_neg HBD.out, if_neg (by rw [HRO.out]; simp), if_neg (fun h => h HMT.out), if_neg (by rw [HFF.out]; simp)])
              have HP := Lib.hid (prods_len HDL.out)
              have HCB := Lib.hid (csum_lt (N := 64) HDL.out HZ.out HDB.out (by rw [HNN.out]; omega))
              have HP5 := Lib.hid (BC.new w4 w4.heap.size #[.bool false, .string ⟨#[]⟩] 38 rfl)
              have HBA := Lib.hid (((Below.refl w4.heap.size w4).alloc (Nat.le_refl _) (.cells #[.bool false, .string ⟨#[]⟩] 38)))
              go_wp2
              obtain ⟨W0, hW0⟩ : ∃ W, w4.alloc (.cells #[.bool false, .string ⟨#[]⟩] 38) = W := ⟨_, rfl⟩
              rw [hW0] at HP5 HBA ⊢
              clear hW0
              obtain ⟨B5, hB5⟩ : ∃ B, w4.heap.size = B := ⟨_, rfl⟩
              rw [hB5] at HP5 HBA ⊢
              have HB5 := Lib.hid hB5
              clear hB5
              go_loopg [65] (n + 1) (fun gg v10 wr => ∃ i : Nat, v10 = .int .i64 (i : Int) ∧ i ≤ n ∧ n - i < gg ∧ BC wr B5 [.bool false, .string (mg ((prods Ws ds).take i).sum)] ∧ Below B5 w4 wr)
              case atStart => exact ⟨0, rfl, Nat.zero_le _, by omega, by rw [List.take_zero, show ([] : List Nat).sum = 0 from rfl, mg_zero]; exact HP5.out, HBA.out⟩
              case round =>
                obtain ⟨i, rfl, hi, hig, h5, hb⟩ := hrel
                clear HP5 HBA
                have HP5 := Lib.hid h5
                have HB := Lib.hid hb
                have HG := Lib.hid hig
                clear h5 hb hig
                have HBW := Lib.hid (show Below w4.heap.size w4 wr by rw [HB5.out]; exact HB.out)
                have HBWW := Lib.hid (bstep HB4.out HBW.out)
                by_cases hlt : i < n
                · have hltI : (i : Int) < n := by omega
                  obtain ⟨x, hx⟩ : ∃ x, Ws[i]? = some x := ⟨Ws[i]'(by rw [HNN.out]; exact hlt), List.getElem?_eq_getElem _⟩
                  obtain ⟨d, hd⟩ : ∃ d, ds[i]? = some d := ⟨ds[i]'(by rw [HDL.out, HNN.out]; exact hlt), List.getElem?_eq_getElem _⟩
                  obtain ⟨A', eA, c0, c1⟩ := (HS.out.below HBWW.out) i false (mg x) (by unfold VL; rw [List.getElem?_map, hx]; rfl)
                  cases eA
                  have c2 : wr.cell? ⟨(A.add (i * 2)).block, (A.add (i * 2)).off + 1, none⟩ = some (.string (mg x)) := by rw [addr_next]; exact c1
                  have hcd := HLT.out i d hd
                  have hgl := World.block_lt_of_cell? w _ hcd
                  have c3 := (HBWW.out.cell (p := ⟨gl, i, none⟩) hgl).trans hcd
                  have HX := Lib.hid (take_sum_succ (prods_at hx hd))
                  have hxs := HZ.out x (List.mem_of_getElem? hx)
                  have hds := HDB.out d (List.mem_of_getElem? hd)
                  have hpt := take_sum_le (prods Ws ds) i
                  have hps : x * d < 2 ^ (64 + 62) := by rw [Nat.pow_add]; exact Nat.mul_lt_mul'' hxs hds
                  have HOF := Lib.hid (fun W => show Calls Tryd.prog 39 #[.int .i64 (d : Int)] W fun e w' => e = .returned (.agg #[.bool false, .string (mg d)]) ∧ Below W.heap.size W w' from by
                    have := cOf (d : Int) (by omega) (by omega) W
                    rwa [Int.natAbs_natCast, show sgn (d : Int) = false from decide_eq_false (by omega)] at this)
                  have HMU := Lib.hid (fun W => show Calls Tryd.prog 38 #[.agg #[.bool false, .string (mg x)], .agg #[.bool false, .string (mg d)]] W fun e w' => e = .returned (.agg #[.bool false, .string (mg (x * d))]) ∧ Below W.heap.size W w' from by
                    have := cMul (VN_rp (N := 64) hxs (by omega)) (VN_rp (N := 62) hds (by omega)) W
                    rwa [show (x : Int) * (d : Int) = ((x * d : Nat) : Int) by simp, Int.natAbs_natCast, show sgn ((x * d : Nat) : Int) = false from decide_eq_false (by omega)] at this)
                  have HAD := Lib.hid (fun W => show Calls Tryd.prog 37 #[.agg #[.bool false, .string (mg ((prods Ws ds).take i).sum)], .agg #[.bool false, .string (mg (x * d))]] W fun e w' => e = .returned (.agg #[.bool false, .string (mg (((prods Ws ds).take i).sum + x * d))]) ∧ Below W.heap.size W w' from by
                    have := cAdd (VN_rp (z := ((prods Ws ds).take i).sum) (N := 64 + 62 + 10) (Nat.lt_of_le_of_lt hpt HCB.out) (by omega)) (VN_rp (N := 64 + 62) hps (by omega)) W
                    rwa [show ((((prods Ws ds).take i).sum : Nat) : Int) + ((x * d : Nat) : Int) = ((((prods Ws ds).take i).sum + x * d : Nat) : Int) by simp, Int.natAbs_natCast, show sgn ((((prods Ws ds).take i).sum + x * d : Nat) : Int) = false from decide_eq_false (by omega)] at this)
                  obtain ⟨S, hS⟩ : ∃ S, ((prods Ws ds).take i).sum = S := ⟨_, rfl⟩
                  obtain ⟨xd, hxd⟩ : ∃ y, x * d = y := ⟨_, rfl⟩
                  rw [hS] at HX HAD HP5
                  rw [hxd] at HX HAD HMU
                  have HA5 := Lib.hid (HP5.out.alloc (.cells #[.bool false, .string (mg x)] 38))
                  have HA7 := Lib.hid (BC.new wr wr.heap.size #[.bool false, .string (mg x)] 38 rfl)
                  have HAB := Lib.hid (HB.out.alloc (by have := HB.out.size; have := HB5.out; omega) (.cells #[.bool false, .string (mg x)] 38))
                  have HC3 := Lib.hid (((Below.refl wr.heap.size wr).alloc (Nat.le_refl _) (.cells #[.bool false, .string (mg x)] 38)).cell (p := ⟨gl, i, none⟩) (World.block_lt_of_cell? wr _ c3))
                  have c4 := HC3.out.trans c3
                  clear hxs hds hpt hps hS hxd hx hd hcd hgl HC3 c1
                  go_wp2_with fail
                  obtain ⟨W, hW⟩ : ∃ W, wr.alloc (.cells #[.bool false, .string (mg x)] 38) = W := ⟨_, rfl⟩
                  rw [hW] at HA5 HA7 HAB c4 ⊢
                  clear hW
                  refine wp_region_front 9 zvI (by kernel_rfl) shI (by kernel_rfl) (by kernel_rfl) (zvI_alloc _ (by kernel_rfl)) (shI_store _ (by kernel_rfl)) ?_
                  intro mm BW hm1 hm2 hBW
                  haveI := clm_some mm BW
                  have fq0 := fun u : Clm mm BW => u.cell hm1 hBW (HA5.out.at 0 _ rfl)
                  have fr0 := fun u : Clm mm BW => u.cell hm1 hBW (HA5.out.at 1 _ rfl)
                  have fq1 := fun u : Clm mm BW => u.cell hm1 hBW (HA7.out.at 0 _ rfl)
                  have fr1 := fun u : Clm mm BW => u.cell hm1 hBW (HA7.out.at 1 _ rfl)
                  have fs1 := fun u : Clm mm BW => u.cell hm1 hBW c4
                  simp only [frontOf, unmade, List.take_succ_cons, List.take_zero, List.map_cons, List.map_nil]
                  iterate 6 (go_big_quiet_step (fail))
                  go_big_quiet_step ((go_at_call 39; exact quiet_clm hm2 HOF.out _))
                  go_big_quiet_step ((go_at_call 38; exact quiet_clm hm2 HMU.out _))
                  go_big_quiet_step ((go_at_call 37; exact quiet_clm hm2 HAD.out _))
                  refine wpQuiet_nil ?_
                  refine ⟨List.forall_mem_nil _, ?_⟩
                  intro γ w9 hB9 hF
                  clear hF hBW this hm1 hm2 fq0 fr0 fq1 fr1 fs1
                  clear BW mm
                  simp only [madesFrom, Facts, patch, List.take_succ_cons, List.take_zero, List.drop_succ_cons, List.drop_zero]
                  clear γ
                  have HQ5 := Lib.hid (HA5.out.below hB9)
                  have HQB := Lib.hid (HAB.out.grown (Below.grows hB9) (by rw [← HB5.out]; exact HAB.out.size) (fun k e => by cases e))
                  clear hB9 HA5 HA7 HAB c4 HP5 HB HOF HMU HAD
                  have x0 := HQ5.out.at 0 _ rfl
                  have x1 := HQ5.out.at 1 _ rfl
                  have z0 := HQ5.out.z 0 (by simp)
                  have z1 := HQ5.out.z 1 (by simp)
                  go_wp2_with fail
                  go_roundg (n - i)
                  case rel =>
                    refine ⟨i + 1, by go_num, by omega, by omega, ?_, (HQB.out.setCell (p := ⟨_, 0, none⟩) (by simp) _).setCell (p := ⟨_, 1, none⟩) (by simp) _⟩
                    rw [HX.out]
                    exact HQ5.out.set2 0 1 _ _ (by simp) (by simp)
                  case measure => have := HG.out; omega
                · obtain rfl : n = i := by omega
                  have hB : decide ((n : Int) < n) = false := by simp
                  have x0 := HP5.out.at 0 _ rfl
                  have x1 := HP5.out.at 1 _ rfl
                  have HSS := Lib.hid (show ((prods Ws ds).take n).sum = csum Ws ds from by rw [List.take_of_length_le (by rw [HP.out, HNN.out]; exact Nat.le_refl _)]; rfl)
                  obtain ⟨S, hS⟩ : ∃ S, ((prods Ws ds).take n).sum = S := ⟨_, rfl⟩
                  rw [hS] at x1 HSS
                  clear hS
                  obtain ⟨A0, ci, g0, -, -, hs0⟩ := HAT.out 0 (VL (tabR Ws 0)) (by rw [HMT.out]; exact tabM_at (by rw [HNN.out]; omega))
                  obtain ⟨A1, eA, g1, g2⟩ := hs0 (n - 1) false (mg (alc Ws)) (by
                    refine VL_at ?_
                    unfold tabR
                    rw [List.getElem?_map, List.getElem?_range (by rw [HNN.out]; omega)]
                    show some (alc (seg Ws 0 (n - 1))) = some (alc Ws)
                    have := seg_all (Ws := Ws) (by rw [HNN.out]; omega)
                    rw [HNN.out] at this
                    rw [this])
                  cases eA
                  obtain ⟨m, hm⟩ : ∃ m, n - 1 = m := ⟨_, rfl⟩
                  have hmI : (n : Int) - 1 = (m : Int) := by omega
                  rw [VL_len, tabR_len, HNN.out, Nat.sub_zero] at g0
                  rw [hm] at g1 g2
                  have k0 := (HBWW.out.cell (World.block_lt_of_cell? _ _ g0)).trans g0
                  have k1 := (HBWW.out.cell (World.block_lt_of_cell? _ _ g1)).trans g1
                  have k2 := (HBWW.out.cell (World.block_lt_of_cell? _ _ g2)).trans g2
                  have k3 : wr.cell? ⟨(A0.add (m * 2)).block, (A0.add (m * 2)).off + 1, none⟩ = some (.string (mg (alc Ws))) := by rw [addr_next]; exact k2
                  have hmlt : m < n := by omega
                  obtain ⟨V, hV⟩ : ∃ V, alc Ws = V := ⟨_, rfl⟩
                  rw [hV] at k2 k3 HKE
                  rw [← HSS.out] at HKE
                  have k4 : wr.cell? G = some (.slice (some A0) n ci) := by have := k0; rwa [show G.add 0 = G from by simp [Addr.add]] at this
                  clear g0 g1 g2 hs0 hV hm
                  by_cases hsv : S = V
                  · have hq : (!eqI false (mg S) false (mg V)) = false := by rw [hsv, eqI_iff.2 ⟨rfl, rfl⟩]; rfl
                    have HKK := Lib.hid (show chkB Ws M ds = 0 from by rw [HKE.out, if_neg (fun h => h hsv)])
                    clear hsv
                    go_wp2_with fail
                    go_quiet (fail)
                    go_wp2
                    go_ret
                    exact ⟨by rw [HKK.out]; rfl, below_drA HBWW.out⟩
                  · have hq : eqI false (mg S) false (mg V) = false := by
                      cases h : eqI false (mg S) false (mg V) with
                      | false => rfl
                      | true =>
                        have := congrArg (fun z : ByteArray => bv z.data.toList) (eqI_iff.1 h).2
                        simp only [bv_mg] at this
                        exact absurd this hsv
                    have HKK := Lib.hid (show chkB Ws M ds = 23 from by rw [HKE.out, if_pos hsv])
                    clear hsv
                    go_wp2_with fail
                    go_quiet (fail)
                    go_wp2
                    go_ret
                    exact ⟨by rw [HKK.out]; rfl, below_drA HBWW.out⟩
          · have HKE := Lib.hid (show chkB Ws M ds = 23 from by
              unfold chkB
              rw [if_neg HBD.out, if_neg (by rw [HRO.out]; simp), if_neg (fun h => h HMT.out), if_pos (by rw [HFF.out, beq_eq_false_iff_ne.2 hfx]; rfl)])
            have hne : (fx != 0) = true := by simpa using hfx
            go_wp2
            go_ret
            exact ⟨by rw [HKE.out]; rfl, HB4.out⟩
end
end Go.Proofs.Gv
