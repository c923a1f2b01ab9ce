/- limited.Check at any table and any lengths. -/
import Derived.Test.YtghjjfknlnegpaaGreatZtbP
import Derived.Test.YtghjjfknlnegpaaGreatZnaP
import Derived.Test.YtghjjfknlnegpaaGreatZco
import Derived.Test.YtghjjfknlnegpaaGreatRefAdd
import Derived.Test.YtghjjfknlnegpaaGreatGreatP
set_option linter.unusedSimpArgs false
set_option linter.unusedVariables false
namespace Go.Proofs.Gv
open Go Go.RowKit Go.Maps

/-- Lengths that are none. -/
def badM (m x : Int) : Bool := decide (x < 1) || decide (m < x)
def dcl (m x : Int) : Nat := if badM m x = true then 0 else x.toNat
theorem dcl_good {m x : Int} (h : badM m x = false) : ∃ d : Nat, x = d ∧ dcl m x = d ∧ 1 ≤ d ∧ (d : Int) ≤ m := by
  unfold dcl
  rw [h]
  unfold badM at h
  simp only [Bool.or_eq_false_iff, decide_eq_false_iff_not] at h
  exact ⟨x.toNat, by omega, by simp, by omega, by omega⟩
theorem dcl_all {m : Int} : ∀ {xs : List Int}, xs.any (badM m) = false → xs = (xs.map (dcl m)).map (fun (k : Nat) => (k : Int)) ∧ ∀ d ∈ xs.map (dcl m), 1 ≤ d ∧ (d : Int) ≤ m
  | [], _ => ⟨rfl, fun d h => by simp at h⟩
  | x :: r, h => by
    rw [List.any_cons, Bool.or_eq_false_iff] at h
    obtain ⟨d, rfl, h2, h3, h4⟩ := dcl_good h.1
    obtain ⟨e1, e2⟩ := dcl_all h.2
    refine ⟨by rw [List.map_cons, List.map_cons, h2, ← e1], fun z hz => ?_⟩
    rw [List.map_cons, h2] at hz
    rcases List.mem_cons.1 hz with rfl | hz
    · exact ⟨h3, h4⟩
    · exact e2 z hz
theorem dcl_le {m : Nat} {xs : List Int} : ∀ d ∈ xs.map (dcl m), d ≤ m := fun d hd => by
  obtain ⟨x, -, rfl⟩ := List.mem_map.1 hd
  cases h : badM m x with
  | true => unfold dcl; rw [h]; simp
  | false => obtain ⟨d, -, e, -, h4⟩ := dcl_good h; rw [e]; omega
theorem dcl_at {m : Int} {xs : List Int} {i : Nat} {x : Int} (h : xs[i]? = some x) : (xs.map (dcl m))[i]? = some (dcl m x) := by rw [List.getElem?_map, h]; rfl
/-- Numbers at any address. -/
def NSx (W : World) (a : Option Addr) (xs : List Int) : Prop := ∀ (i : Nat) (x : Int), xs[i]? = some x → ∃ G, a = some G ∧ W.cell? (G.add i) = some (.int .i64 x)
theorem NSx.below {W W' : World} {a : Option Addr} {xs : List Int} (h : NSx W a xs) (hb : Below W.heap.size W W') : NSx W' a xs := fun i x hi => by
  obtain ⟨G, rfl, c⟩ := h i x hi
  exact ⟨G, rfl, cellBelow c hb⟩
theorem NSx.rowO {W : World} {a : Option Addr} {xs : List Int} (h : NSx W a xs) (c : Nat) : RowO W (.slice a xs.length c) (intsV xs) := by
  refine ⟨a, c, by rw [intsV_len], fun i x hi => ?_⟩
  unfold intsV at hi
  rw [List.getElem?_map] at hi
  cases hx : xs[i]? with
  | none => rw [hx] at hi; cases hi
  | some y =>
    rw [hx] at hi
    cases hi
    exact h i y hx
theorem NSx.nat {W : World} {G : Addr} {xs : List Int} {ds : List Nat} (h : NSx W (some G) xs) (e : xs = ds.map fun (k : Nat) => (k : Int)) : NAt W G (natV ds) := fun i v hi => by
  unfold natV at hi
  rw [List.getElem?_map] at hi
  cases hx : ds[i]? with
  | none => rw [hx] at hi; cases hi
  | some y =>
    rw [hx] at hi
    cases hi
    obtain ⟨G', e1, c⟩ := h i (y : Int) (by rw [e, List.getElem?_map, hx]; rfl)
    cases e1
    exact c
/-- What Check answers once weights and limit can be served. -/
noncomputable def chkT (Ws : List Nat) (m : Nat) (N : List (List (Bool × ByteArray))) (xs : List Int) : Int :=
  if tabX Ws m ≠ N then 23 else if xs.length ≠ Ws.length then 23 else if xs.any (badM m) = true then 23 else if csP (Ws.zip (xs.map (dcl m))) ≠ limC Ws m then 23 else if krL 32 (xs.map (dcl m)) ≤ 2 ^ 32 then 0 else 23
theorem LTb.ok {Ws : List Nat} {k : Nat} {w w' : World} {e : Ending} (h0 : limE (VL Ws) k = 0) (h : LTb (VL Ws) k w e w') :
    ∃ T, e = .returned (.tuple #[.slice (some ⟨T, 0, none⟩) (k + 1) (k + 1), .int .i64 0]) ∧ RwS w' (.slice (some ⟨T, 0, none⟩) (k + 1) (k + 1)) (tabX Ws k) ∧ Below w.heap.size w w' := by
  obtain ⟨v, rfl, ht, hb⟩ := h
  rcases ht with ⟨h1, -⟩ | ⟨-, Us, T, e1, rfl, hr⟩
  · exact absurd h0 h1
  · obtain rfl := VLinj9 e1
    rw [Int.toNat_natCast] at hr ⊢
    exact ⟨T, by rw [h0], hr, hb⟩
set_option maxRecDepth 100000 in
set_option maxHeartbeats 1600000 in
theorem chkE39_any (cap : Nat) (a : Option Addr) (L : List (Bool × ByteArray)) (m : Int) (hc : L.length ≤ cap) (hcm : cap ≤ maxLen) (h12 : L.length ≤ 12 ∨ 64 < L.length) (hz : ∀ x ∈ L, x.2.size ≤ 8) (hm : (Lit.int .i64 m).wf = true) (h0 : limE L m ≠ 0) (v x : Value) (w : World) (hSl : Sl w a L) :
    Calls Tryz.prog 13 #[.slice a L.length cap, .int .i64 m, v, x] w fun e w' => e = .returned (.int .i64 (limE L m)) ∧ Below w.heap.size w w' := by
  have HT := Lib.hid (Table39_any cap a L m hc hcm h12 hz hm w hSl)
  unfold LTb at HT
  obtain ⟨E, hE⟩ : ∃ E, limE L m = E := ⟨_, rfl⟩
  rw [hE] at HT h0 ⊢
  have hne : (E != 0) = true := by simpa using h0
  clear h0 hE hSl hz
  go_enter Tryz.func13, Tryz.ntmps13
  go_wp2_with fail
  refine HT.out.mono ?_
  rintro e w1 ⟨v', rfl, -, hb⟩
  go_wp2
  go_ret
  exact ⟨rfl, hb⟩
set_option maxRecDepth 100000 in
set_option maxHeartbeats 4000000 in
theorem chkT39_any (A : Addr) (c n m : Nat) (Ws : List Nat) (hn : Ws.length = n) (h2 : 2 ≤ n) (h12 : n ≤ 12) (hc : n ≤ c) (hcm : c ≤ maxLen) (hz : ∀ x ∈ VL Ws, x.2.size ≤ 8) (hm : 1 ≤ m) (hm32 : m ≤ 32) (h0 : limE (VL Ws) m = 0) (hf : n ≤ 2 ^ m) (N : List (List (Bool × ByteArray))) (v : Value) (a2 : Option Addr) (c2 : Nat) (xs : List Int) (hxl : xs.length ≤ 1000)
    (w : World) (hS : Sl w (some A) (VL Ws)) (hv : RwO w v N) (hr : NSx w a2 xs) :
    Calls Tryz.prog 13 #[.slice (some A) n c, .int .i64 m, v, .slice a2 xs.length c2] w fun e w' => e = .returned (.int .i64 (chkT Ws m N xs)) ∧ Below w.heap.size w w' := by
  have HTB := Lib.hid ((Table39_any c (some A) (VL Ws) m (by rw [VL_len, hn]; exact hc) hcm (by rw [VL_len, hn]; omega) hz (wf_m (by omega)) w hS).mono (fun e w' h => LTb.ok h0 h))
  rw [VL_len, hn] at HTB
  have HEQ := Lib.hid (fun T W (h1 : RwS W (.slice (some ⟨T, 0, none⟩) (m + 1) (m + 1)) (tabX Ws m)) (hb : Below w.heap.size w W) => eqFnO_any _ v (tabX Ws m) N (by rw [tabX_len]; omega) (fun r hr => by
    obtain ⟨j, hj, rfl⟩ := List.mem_map.1 hr
    rw [rowX_len]
    have := nn_le (show Ws.length ≤ 12 by omega)
    omega) W h1 (hv.below hb))
  have HFT := Lib.hid (fun G W (hg : a2 = some G) (hx : xs.length = n) (hall : xs.any (badM m) = false) (hb2 : Below w.heap.size w W) => fitsO_any (g := G) (c := c2) (n := n) (ds := xs.map (dcl m)) (by rw [List.length_map, hx]) (by omega) (by omega) (fun d hd => by have := (dcl_all hall).2 d hd; omega) W (by subst hg; exact (hr.below hb2).nat (dcl_all hall).1))
  have HCO := Lib.hid (tabX_cost (Ws := Ws) (m := m) (by omega) (by omega))
  have hz64 := VLlt9 hz
  have HZ := Lib.hid hz64
  have HS := Lib.hid hS
  have HR := Lib.hid hr
  have HPB := Lib.hid (fun (hx : xs.length = n) => csP_bd (Ws := Ws) (ds := xs.map (dcl m)) (by rw [List.length_map]; omega) hz64 (fun d hd => by have := dcl_le (m := m) d hd; omega) (by omega))
  have HCK := Lib.hid (show chkT Ws m N xs = if tabX Ws m ≠ N then 23 else if xs.length ≠ n then 23 else if xs.any (badM m) = true then 23 else if csP (Ws.zip (xs.map (dcl m))) ≠ limC Ws m then 23 else if krL 32 (xs.map (dcl m)) ≤ 2 ^ 32 then 0 else 23 from by unfold chkT; rw [hn])
  obtain ⟨R, hR⟩ : ∃ R, chkT Ws m N xs = R := ⟨_, rfl⟩
  rw [hR] at HCK ⊢
  have hmI : (m : Int) ≤ 32 := by omega
  have HWN := Lib.hid hn
  clear hn hz hz64 hS hv hr hf hc hcm hR h0
  obtain ⟨m1, hm1⟩ : ∃ x, m + 1 = x := ⟨_, rfl⟩
  rw [hm1] at HTB HEQ
  by_cases htab : tabX Ws m = N
  case neg =>
    rw [if_pos htab] at HCK
    obtain rfl := HCK.out
    rw [decide_eq_false htab] at HEQ
    clear htab
    go_enter Tryz.func13, Tryz.ntmps13
    go_wp2_with fail
    refine HTB.out.mono ?_
    rintro e w1 ⟨T, rfl, ht, hb1⟩
    have HB1 := Lib.hid hb1
    have HE1 := Lib.hid (HEQ.out T _ ht hb1)
    clear ht hb1
    go_wp2_with fail
    refine HE1.out.mono ?_
    rintro e w2 ⟨rfl, hb2⟩
    go_wp2
    go_ret
    exact ⟨rfl, bstep HB1.out hb2⟩
  case pos =>
    rw [if_neg (fun h => h htab)] at HCK
    rw [decide_eq_true htab] at HEQ
    clear htab
    by_cases hxn : xs.length = n
    case neg =>
      rw [if_pos hxn] at HCK
      obtain rfl := HCK.out
      obtain ⟨q, hq⟩ : ∃ q, xs.length = q := ⟨_, rfl⟩
      rw [hq] at hxn hxl ⊢
      have hqB : ((q : Int) != (n : Int)) = true := by simp; omega
      have hqN : ¬ (q : Int) = (n : Int) := by omega
      clear hxn hq
      go_enter Tryz.func13, Tryz.ntmps13
      go_wp2_with fail
      refine HTB.out.mono ?_
      rintro e w1 ⟨T, rfl, ht, hb1⟩
      have HB1 := Lib.hid hb1
      have HE1 := Lib.hid (HEQ.out T _ ht hb1)
      clear ht hb1
      go_wp2_with fail
      refine HE1.out.mono ?_
      rintro e w2 ⟨rfl, hb2⟩
      go_wp2
      go_ret
      exact ⟨rfl, bstep HB1.out hb2⟩
    rw [if_neg (fun h => h hxn)] at HCK
    have HFT := Lib.hid (fun G W hg => HFT.out G W hg hxn)
    have HPB := Lib.hid (HPB.out hxn)
    have HXN := Lib.hid hxn
    rw [hxn]
    have hnB : ((n : Int) != (n : Int)) = false := by simp
    obtain ⟨ds, hds⟩ : ∃ ds, xs.map (dcl m) = ds := ⟨_, rfl⟩
    have HDS := Lib.hid hds
    have HDL := Lib.hid (show ds.length = n from by rw [← hds, List.length_map, hxn])
    rw [hds] at HFT HPB HCK
    clear hxn hds hxl
    go_enter Tryz.func13, Tryz.ntmps13
    go_wp2_with fail
    refine HTB.out.mono ?_
    rintro e w1 ⟨T, rfl, ht, hb1⟩
    have HB1 := Lib.hid hb1
    have HE1 := Lib.hid (HEQ.out T _ ht hb1)
    have HT1 := Lib.hid ht
    clear ht hb1 HTB HEQ
    go_wp2_with fail
    refine HE1.out.mono ?_
    rintro e w2 ⟨rfl, hb2⟩
    have HB2 := Lib.hid (bstep HB1.out hb2)
    have HT2 := Lib.hid (HT1.out.below hb2)
    clear hb2 HB1 HT1 HE1
    go_upto_region 7 with fail
    have HP := Lib.hid (BC.new w2 w2.heap.size #[.bool false, .string ⟨#[]⟩] 29 rfl)
    have HB3 := Lib.hid (show Below w2.heap.size w2 (w2.alloc (.cells #[.bool false, .string ⟨#[]⟩] 29)) from (Below.refl _ _).alloc (Nat.le_refl _) _)
    obtain ⟨B, hB⟩ : ∃ b, w2.heap.size = b := ⟨_, rfl⟩
    have HBE := Lib.hid hB
    obtain ⟨W0, hW0⟩ : ∃ X, w2.alloc (.cells #[.bool false, .string ⟨#[]⟩] 29) = X := ⟨_, rfl⟩
    rw [hW0] at HP HB3 ⊢
    rw [hB] at HP HB3 ⊢
    clear hW0 hB
    rw [← mg_zero] at HP
    go_wp2_with fail
    go_loopg [36] (n + 1) (fun gg v36 wr => ∃ i : Nat, v36 = .int .i64 (i : Int) ∧ i ≤ n ∧ n - i < gg ∧ (xs.take i).any (badM m) = false ∧ BC wr B [.bool false, .string (mg ((prods Ws ds).take i).sum)] ∧ Below B w2 wr)
    case atStart => exact ⟨0, rfl, Nat.zero_le _, by omega, rfl, HP.out, HB3.out⟩
    case round =>
      obtain ⟨i, rfl, hi, hig, hno, hp, hb⟩ := hrel
      clear HP HB3
      have HG := Lib.hid hig
      have HNO := Lib.hid hno
      have HP := Lib.hid hp
      have HB := Lib.hid hb
      have hb2 : Below w2.heap.size w2 wr := by rw [HBE.out]; exact hb
      have HBW := Lib.hid (bstep HB2.out hb2)
      clear hig hp hb hno
      by_cases hlt : i < n
      · have hltI : (i : Int) < n := by omega
        obtain ⟨x, hx⟩ : ∃ x, Ws[i]? = some x := ⟨Ws[i]'(by rw [HWN.out]; exact hlt), List.getElem?_eq_getElem _⟩
        obtain ⟨xd, hxd⟩ : ∃ d, xs[i]? = some d := ⟨xs[i]'(by rw [HXN.out]; exact hlt), List.getElem?_eq_getElem _⟩
        obtain ⟨G, rfl, c3⟩ := (HR.out.below HBW.out) i xd hxd
        have HXD := Lib.hid hxd
        by_cases hb1 : xd < 1
        · have HV := Lib.hid (show R = 23 from by
            have : xs.any (badM m) = true := List.any_eq_true.2 ⟨xd, List.mem_of_getElem? HXD.out, by unfold badM; simp [hb1]⟩
            rw [HCK.out, if_pos this])
          clear hxd hx hb2
          go_wp2_with fail
          go_wp2
          go_ret
          exact ⟨by rw [HV.out]; rfl, HBW.out⟩
        have hb1B : decide (xd < 1) = false := by simpa using hb1
        by_cases hb2' : (m : Int) < xd
        · have HV := Lib.hid (show R = 23 from by
            have : xs.any (badM m) = true := List.any_eq_true.2 ⟨xd, List.mem_of_getElem? HXD.out, by unfold badM; simp [hb2']⟩
            rw [HCK.out, if_pos this])
          clear hxd hx hb2
          go_wp2_with fail
          go_wp2
          go_ret
          exact ⟨by rw [HV.out]; rfl, HBW.out⟩
        have hbad : badM m xd = false := by unfold badM; simp [hb1B]; omega
        obtain ⟨d, rfl, hdd, hd1, hd2'⟩ := dcl_good hbad
        have hd : ds[i]? = some d := by rw [← HDS.out, dcl_at hxd, hdd]
        have hd2 : d ≤ m := by omega
        have hd2B : decide ((m : Int) < (d : Int)) = false := by simp; omega
        have HNO2 := Lib.hid (show (xs.take (i + 1)).any (badM m) = false from by
          rw [List.take_add_one, hxd, List.any_append, HNO.out]
          simp [hbad])
        obtain ⟨A', e, c0, c1'⟩ := (HS.out.below HBW.out) i false (mg x) (VL_at hx)
        cases e
        have c1 : wr.cell? ⟨(A.add (i * 2)).block, (A.add (i * 2)).off + 1, none⟩ = some (.string (mg x)) := by rw [addr_next]; exact c1'
        have HX := Lib.hid (take_sum_succ (prods_at hx hd))
        have hxs := HZ.out x (List.mem_of_getElem? hx)
        have hpt := take_sum_le (prods Ws ds) i
        have hds : d < 2 ^ 62 := by omega
        have hps : x * d < 2 ^ (64 + 62) := by rw [Nat.pow_add]; exact Nat.mul_lt_mul'' hxs hds
        have HOF := Lib.hid (fun W => cOfN d hds W)
        have HMU := Lib.hid (fun W => show Calls Tryz.prog 32 #[.agg #[.bool false, .string (mg x)], .agg #[.bool false, .string (mg d)]] W fun e w' => e = .returned (.agg #[.bool false, .string (mg (x * d))]) ∧ Below W.heap.size W w' from by
          have := cMul (VN_rp (N := 64) hxs (by omega)) (VN_rp (N := 62) hds (by omega)) W
          rwa [show (x : Int) * (d : Int) = ((x * d : Nat) : Int) by simp, Int.natAbs_natCast, show sgn ((x * d : Nat) : Int) = false from decide_eq_false (by omega)] at this)
        have HAD := Lib.hid (fun W => cAddN (x := ((prods Ws ds).take i).sum) (d := x * d) 136 126 (Nat.lt_of_le_of_lt hpt HPB.out) hps (by decide) (by decide) W)
        obtain ⟨S, hS⟩ : ∃ S, ((prods Ws ds).take i).sum = S := ⟨_, rfl⟩
        obtain ⟨xd, hxd'⟩ : ∃ y, x * d = y := ⟨_, rfl⟩
        rw [hS] at HX HAD HP
        rw [hxd'] at HX HAD HMU
        have x0 := HP.out.at 0 _ rfl
        have x1 := HP.out.at 1 _ rfl
        clear hxs hds hpt hps hS hxd hxd' hx hd hbad hdd hd2' hb1 hb2' c1' HXD HNO
        go_upto_region 12 with fail
        clear x0 x1
        refine wp_region_front 9 zvI (by kernel_rfl) shI (by kernel_rfl) (by kernel_rfl) (zvI_alloc _ (by kernel_rfl)) (shI_store _ (by kernel_rfl)) ?_
        intro mm BW hm1 hm2 hBW
        haveI := clm_some mm BW
        have fq0 := fun u : Clm mm BW => u.cell hm1 hBW (HP.out.at 0 _ rfl)
        have fr0 := fun u : Clm mm BW => u.cell hm1 hBW (HP.out.at 1 _ rfl)
        have fq1 := fun u : Clm mm BW => u.cellM hm1 hBW c0
        have fr1 := fun u : Clm mm BW => u.cellM hm1 hBW c1
        simp only [frontOf, unmade, List.take_succ_cons, List.take_zero, List.map_cons, List.map_nil]
        iterate 6 (go_big_quiet_step (fail))
        go_big_quiet_step ((go_at_call 23; exact quiet_clm hm2 HOF.out _))
        go_big_quiet_step ((go_at_call 32; exact quiet_clm hm2 HMU.out _))
        go_big_quiet_step ((go_at_call 31; exact quiet_clm hm2 HAD.out _))
        refine wpQuiet_nil ?_
        refine ⟨List.forall_mem_nil _, ?_⟩
        intro γ w9 hB9 hF
        clear hF hBW this hm1 hm2 fq0 fr0 fq1 fr1
        clear BW mm
        simp only [madesFrom, Facts, patch, List.take_succ_cons, List.take_zero, List.drop_succ_cons, List.drop_zero]
        clear γ
        have HQ5 := Lib.hid (HP.out.below hB9)
        have HQB := Lib.hid (HB.out.trans (hB9.mono (by have := HB.out.size; have := HBE.out; omega)))
        clear hB9 HP HB HOF HMU HAD c0 c1 c3 hb2
        have x0 := HQ5.out.at 0 _ rfl
        have x1 := HQ5.out.at 1 _ rfl
        have z0 := HQ5.out.z 0 (by simp)
        have z1 := HQ5.out.z 1 (by simp)
        go_wp2_with fail
        go_roundg (n - i)
        case rel =>
          refine ⟨i + 1, by go_num, by omega, by omega, HNO2.out, ?_, (HQB.out.setCell (p := ⟨_, 0, none⟩) (Nat.le_refl _) _).setCell (p := ⟨_, 1, none⟩) (Nat.le_refl _) _⟩
          rw [HX.out]
          exact HQ5.out.set2 0 1 _ _ (by simp) (by simp)
        case measure => have := HG.out; omega
      · obtain rfl : n = i := by omega
        have hB : decide ((n : Int) < n) = false := by simp
        have hpe : ((prods Ws ds).take n).sum = csP (Ws.zip ds) := by
          have h1 := HWN.out
          have h2 := HDL.out
          rw [List.take_of_length_le (by rw [prods_len (by omega)]; omega)]
          rfl
        rw [hpe] at HP
        clear hpe
        have hall : xs.any (badM m) = false := by
          have := HNO.out
          rwa [List.take_of_length_le (Nat.le_of_eq HXN.out)] at this
        rw [if_neg (by rw [hall]; simp)] at HCK
        obtain ⟨xd, hxd⟩ : ∃ d, xs[0]? = some d := ⟨xs[0]'(by rw [HXN.out]; omega), List.getElem?_eq_getElem _⟩
        obtain ⟨G, rfl, c3⟩ := (HR.out.below HBW.out) 0 xd hxd
        have ht0 := HT2.out.below hb2
        have HFT1 := Lib.hid (fun W (h : Below wr.heap.size wr W) => HFT.out G W rfl hall (bstep HBW.out h))
        obtain ⟨T', c', ee, -, -, hat⟩ := ht0
        have eT : T' = ⟨T, 0, none⟩ := by injection ee with h1 h2 h3; exact (Option.some.inj h1).symm
        subst eT
        clear ee
        obtain ⟨Ai, ci, t0, -, -, t1⟩ := hat 0 _ (tabX_at (Nat.zero_le _))
        rw [Nat.sub_zero, rowX_len, HWN.out] at t0
        rw [Nat.sub_zero] at t1
        rw [addr0] at t0
        obtain ⟨A1, e1, t2, t3⟩ := t1 _ _ _ HCO.out
        cases e1
        obtain ⟨n1, hn1⟩ : ∃ x, n + 1 = x := ⟨_, rfl⟩
        obtain ⟨NN, hNN⟩ : ∃ x, n1 * n1 = x := ⟨_, rfl⟩
        have hlt1 : n1 < NN := by
          rw [← hNN]
          have : n1 * 2 ≤ n1 * n1 := Nat.mul_le_mul_left _ (by omega)
          omega
        rw [HWN.out, hn1] at t2 t3
        rw [hn1, hNN] at t0
        have t4 : wr.cell? ⟨(Ai.add (n1 * 2)).block, (Ai.add (n1 * 2)).off + 1, none⟩ = some (.string (mg (limC Ws m))) := by rw [addr_next]; exact t3
        have hn1I : (n : Int) + 1 = (n1 : Int) := by omega
        have hlt1I : (n1 : Int) < (NN : Int) := by omega
        have hNN2 : NN ≤ 169 := by rw [← hNN]; exact Nat.mul_le_mul (show n1 ≤ 13 by omega) (show n1 ≤ 13 by omega)
        have hmg : eqI false (mg (csP (Ws.zip ds))) false (mg (limC Ws m)) = decide (csP (Ws.zip ds) = limC Ws m) := by
          by_cases e : csP (Ws.zip ds) = limC Ws m
          · rw [e, decide_eq_true rfl]
            exact eqI_iff.2 ⟨rfl, rfl⟩
          · rw [decide_eq_false e]
            exact Bool.eq_false_iff.2 fun h => e (mg_inj9 (eqI_iff.1 h).2)
        obtain ⟨cs, hcs⟩ : ∃ x, csP (Ws.zip ds) = x := ⟨_, rfl⟩
        obtain ⟨lc, hlc⟩ : ∃ x, limC Ws m = x := ⟨_, rfl⟩
        obtain ⟨kl, hkl⟩ : ∃ x, decide (krL 32 ds ≤ 2 ^ 32) = x := ⟨_, rfl⟩
        rw [hcs] at HP hmg HCK
        rw [hlc] at hmg HCK t4 t3
        rw [hkl] at HFT1
        have HKL := Lib.hid hkl
        have HBF := Lib.hid (fun W (h : Below wr.heap.size wr W) => bstep HBW.out h)
        have hm1p : 0 < m1 := by omega
        clear hcs hlc hkl hn1 hNN t1 hat hb2 t3 c3 hxd hall
        go_upto_region 14 with fail
        haveI := cls_some wr
        have f0 : ∀ u : Cl wr, u.x.cell? ⟨B, 0, none⟩ = some (.bool false) := fun u => (HP.out.below u.h).at 0 _ rfl
        have f1 : ∀ u : Cl wr, u.x.cell? ⟨B, 1, none⟩ = some (.string (mg cs)) := fun u => (HP.out.below u.h).at 1 _ rfl
        have f2 : ∀ u : Cl wr, u.x.cell? ⟨T, 0, none⟩ = some (.slice (some Ai) NN ci) := fun u => cellBelow t0 u.h
        have f3 : ∀ u : Cl wr, u.x.cell? (Ai.add (n1 * 2)) = some (.bool false) := fun u => cellBelow t2 u.h
        have f4 : ∀ u : Cl wr, u.x.cell? ⟨(Ai.add (n1 * 2)).block, (Ai.add (n1 * 2)).off + 1, none⟩ = some (.string (mg lc)) := fun u => cellBelow t4 u.h
        clear t0 t2 t4
        by_cases hce : cs = lc
        · rw [decide_eq_true hce] at hmg
          rw [if_neg (fun h => h hce)] at HCK
          clear hce
          refine wp_region_cls (by kernel_rfl) ?_
          iterate 12 (go_big_quiet_step (fail))
          go_big_quiet_step ((go_at_call 33; exact quiet_cB (Below.refl _ _) HFT1.out _))
          iterate 2 (go_big_quiet_step (fail))
          refine wpQuiet_nil ?_
          intro w7 hw7
          obtain ⟨u7, rfl⟩ := hw7
          have HBG := Lib.hid (HBF.out _ u7.h)
          obtain ⟨X7, hX7⟩ : ∃ X, u7.x = X := ⟨_, rfl⟩
          rw [hX7] at HBG ⊢
          clear f0 f1 f2 f3 f4
          cases kl with
          | true =>
            rw [if_pos (of_decide_eq_true HKL.out)] at HCK
            obtain rfl := HCK.out
            go_wp2
            go_ret
            exact ⟨rfl, HBG.out⟩
          | false =>
            rw [if_neg (of_decide_eq_false HKL.out)] at HCK
            obtain rfl := HCK.out
            go_wp2
            go_ret
            exact ⟨rfl, HBG.out⟩
        · rw [decide_eq_false hce] at hmg
          rw [if_pos hce] at HCK
          obtain rfl := HCK.out
          clear hce
          refine wp_region_cls (by kernel_rfl) ?_
          iterate 15 (go_big_quiet_step (fail))
          refine wpQuiet_nil ?_
          intro w7 hw7
          obtain ⟨u7, rfl⟩ := hw7
          have HBG := Lib.hid (HBF.out _ u7.h)
          obtain ⟨X7, hX7⟩ : ∃ X, u7.x = X := ⟨_, rfl⟩
          rw [hX7] at HBG ⊢
          clear f0 f1 f2 f3 f4
          go_wp2
          go_ret
          exact ⟨rfl, HBG.out⟩
end Go.Proofs.Gv

namespace Go.Proofs.Gv
open Go Go.RowKit

theorem pw_bd {z : Int} {k N M : Nat} (h : N * bl z.natAbs ≤ M) (hk : k ≤ N) : (z ^ k).natAbs < 2 ^ (M + 1) := by
  have h1 : z.natAbs < 2 ^ (bl z.natAbs) := bl_le_iff.1 (Nat.le_refl _)
  have h2 : z.natAbs ^ k ≤ (2 ^ (bl z.natAbs)) ^ k := Nat.pow_le_pow_left (Nat.le_of_lt h1) k
  rw [← Nat.pow_mul] at h2
  have h3 : bl z.natAbs * k ≤ M := by
    have := Nat.mul_le_mul_right (bl z.natAbs) hk
    rw [Nat.mul_comm]; omega
  have h4 : 2 ^ (bl z.natAbs * k) ≤ 2 ^ M := Nat.pow_le_pow_right (by decide) h3
  rw [Int.natAbs_pow]
  exact Nat.lt_of_le_of_lt (Nat.le_trans h2 h4) (Nat.pow_lt_pow_right (by decide) (Nat.lt_succ_self M))
theorem pw_rp {z : Int} {k N M : Nat} (hM : M ≤ 65536) (h : N * bl z.natAbs ≤ M) (hk : k ≤ N) : Rp (sgn (z ^ k)) (mg (z ^ k).natAbs) (z ^ k) ∧ (mg (z ^ k).natAbs).size ≤ 100000 := by
  have h1 := pw_bd h hk
  refine ⟨Rp.V (M + 1) h1 (by omega), Nat.le_trans (szB ((M + 1) / 8 + 1) (Nat.lt_of_lt_of_le h1 (Nat.pow_le_pow_right (by decide) (by omega)))) (by omega)⟩

/-- The boxes of Power: the result, out, square. -/
structure PwSt (w W : World) (b6 b7 : Nat) (zo zs : Int) : Prop where
  be : Below w.heap.size w W
  r : Bx W (w.heap.size + 1) false ⟨#[]⟩
  o : Bx W b6 (sgn zo) (mg zo.natAbs)
  q : Bx W b7 (sgn zs) (mg zs.natAbs)
  l6 : w.heap.size + 1 < b6
  l7 : w.heap.size + 1 < b7
  ne : b6 ≠ b7
theorem PwSt.below {w W W' : World} {b6 b7 : Nat} {zo zs : Int} (h : PwSt w W b6 b7 zo zs) (hb : Below W.heap.size W W') : PwSt w W' b6 b7 zo zs :=
  ⟨bstep h.be hb, h.r.below hb, h.o.below hb, h.q.below hb, h.l6, h.l7, h.ne⟩
theorem PwSt.set6 {w W : World} {b6 b7 : Nat} {zo zs : Int} (h : PwSt w W b6 b7 zo zs) (z : Int) : PwSt w ((W.setCell ⟨b6, 0, none⟩ (.bool (sgn z))).setCell ⟨b6, 1, none⟩ (.string (mg z.natAbs))) b6 b7 z zs := by
  have h1 := h.l6
  have h2 := h.l7
  exact ⟨(h.be.setCell (p := ⟨b6, 0, none⟩) (by show w.heap.size ≤ b6; omega) _).setCell (p := ⟨b6, 1, none⟩) (by show w.heap.size ≤ b6; omega) _, h.r.other (by omega), h.o.set, h.q.other (Ne.symm h.ne), h.l6, h.l7, h.ne⟩
theorem PwSt.set7 {w W : World} {b6 b7 : Nat} {zo zs : Int} (h : PwSt w W b6 b7 zo zs) (z : Int) : PwSt w ((W.setCell ⟨b7, 0, none⟩ (.bool (sgn z))).setCell ⟨b7, 1, none⟩ (.string (mg z.natAbs))) b6 b7 zo z := by
  have h1 := h.l6
  have h2 := h.l7
  exact ⟨(h.be.setCell (p := ⟨b7, 0, none⟩) (by show w.heap.size ≤ b7; omega) _).setCell (p := ⟨b7, 1, none⟩) (by show w.heap.size ≤ b7; omega) _, h.r.other (by omega), h.o.other h.ne, h.q.set, h.l6, h.l7, h.ne⟩
theorem odd_step {x y m N : Nat} (h : x + m * y = N) (hm : m % 2 = 1) : (x + y) + m / 2 * (2 * y) = N := by
  have : m = 2 * (m / 2) + 1 := by omega
  rw [← h]
  conv => rhs; rw [this]
  rw [Nat.add_mul, Nat.one_mul, Nat.mul_comm 2 (m / 2), Nat.mul_assoc]
  omega
theorem even_step {x y m N : Nat} (h : x + m * y = N) (hm : m % 2 = 0) : x + m / 2 * (2 * y) = N := by
  have : m = 2 * (m / 2) := by omega
  rw [← h]
  conv => rhs; rw [this]
  rw [Nat.mul_comm 2 (m / 2), Nat.mul_assoc]

theorem ipow_add (z : Int) (x y : Nat) : z ^ (x + y) = z ^ x * z ^ y := by
  induction y with
  | zero => rw [Nat.add_zero, Int.pow_zero, Int.mul_one]
  | succ y ih => rw [← Nat.add_assoc, Int.pow_succ, ih, Int.pow_succ, Int.mul_assoc]
theorem cMulR {a b : Int} (ha : Rp (sgn a) (mg a.natAbs) a ∧ (mg a.natAbs).size ≤ 100000) (hb : Rp (sgn b) (mg b.natAbs) b ∧ (mg b.natAbs).size ≤ 100000) (X : World) :
    Calls Tryz.prog 85 #[.agg #[.bool (sgn a), .string (mg a.natAbs)], .agg #[.bool (sgn b), .string (mg b.natAbs)]] X fun e w' => e = .returned (.agg #[.bool (sgn (a * b)), .string (mg (a * b).natAbs)]) ∧ Below X.heap.size X w' :=
  rMul_any _ _ _ _ a b X ha.1 hb.1 ha.2 hb.2

set_option maxRecDepth 100000 in
set_option maxHeartbeats 4000000 in
theorem rPower_main (na : Bool) (sa : ByteArray) (N : Nat) (w : World) (ha : sa.size ≤ 90000) (h1 : N ≤ 4096) (h2 : N * bl (iv na sa).natAbs ≤ 65536) :
    Calls Tryz.prog 61 #[.agg #[.bool na, .string sa], .int .i64 N] w (RetIE w ((iv na sa) ^ N) 0) := by
  have HBt := Lib.hid (fun X => rBits_any na sa X (by omega))
  have HOf := Lib.hid (fun X => show Calls Tryz.prog 62 #[.int .i64 1] X (fun e w' => e = .returned (.agg #[.bool (sgn ((iv na sa) ^ 0)), .string (mg ((iv na sa) ^ 0).natAbs)]) ∧ Below X.heap.size X w') from by rw [Int.pow_zero]; exact rOf_any 1 X (by omega) (by omega))
  have HCn := Lib.hid (fun X => show Calls Tryz.prog 80 #[.agg #[.bool na, .string sa]] X (fun e w' => e = .returned (.agg #[.bool (sgn ((iv na sa) ^ 1)), .string (mg ((iv na sa) ^ 1).natAbs)]) ∧ Below X.heap.size X w') from by rw [Int.pow_one]; exact rcanon_any na sa X (by omega))
  rw [← iv_abs na sa] at HBt
  obtain ⟨z, hz⟩ : ∃ z, iv na sa = z := ⟨_, rfl⟩
  rw [hz] at HBt HOf HCn h2 ⊢
  obtain ⟨u0, hu0⟩ : ∃ u, z ^ 0 = u := ⟨_, rfl⟩
  obtain ⟨u1, hu1⟩ : ∃ u, z ^ 1 = u := ⟨_, rfl⟩
  rw [hu0] at HOf
  rw [hu1] at HCn
  have HU0 := Lib.hid hu0
  have HU1 := Lib.hid hu1
  clear hu0 hu1
  obtain ⟨p, hp⟩ : ∃ p, bl z.natAbs = p := ⟨_, rfl⟩
  have HP := Lib.hid hp
  rw [hp] at HBt h2
  obtain ⟨P, hP⟩ : ∃ P, p * N = P := ⟨_, rfl⟩
  have hPi : (p : Int) * (N : Int) = P := by rw [← hP]; push_cast; rfl
  have hPb : P ≤ 65536 := by rw [← hP, Nat.mul_comm]; exact h2
  have hPd : decide ((65536 : Int) < (P : Nat)) = false := decide_eq_false (by omega)
  have HRP := Lib.hid (fun k (hk : k ≤ N) => pw_rp (z := z) (k := k) (Nat.le_refl 65536) (by rw [hp]; exact h2) hk)
  have HH1 := Lib.hid h1
  clear hz hp hP h2 h1 ha
  have n0 : decide ((N : Int) < 0) = false := decide_eq_false (by omega)
  have n1 : decide ((4096 : Int) < N) = false := decide_eq_false (by have := HH1.out; omega)
  have HL0 := Lib.hid (((Below.refl w.heap.size w).alloc (Nat.le_refl _) (.cells #[.bool na, .string sa] 29)).alloc (by simp) (.cells #[.bool false, .string ⟨#[]⟩] 29))
  have HB0 := Lib.hid ((Bx.new w w.heap.size na sa rfl).alloc (.cells #[.bool false, .string ⟨#[]⟩] 29))
  have HB1 := Lib.hid (Bx.new (w.alloc (.cells #[.bool na, .string sa] 29)) (w.heap.size + 1) false ⟨#[]⟩ (by simp))
  go_enter Tryz.func61, Tryz.ntmps61
  go_upto_region 1 with fail
  obtain ⟨W, hW⟩ : ∃ W, (w.alloc (.cells #[.bool na, .string sa] 29)).alloc (.cells #[.bool false, .string ⟨#[]⟩] 29) = W := ⟨_, rfl⟩
  rw [hW] at HL0 HB0 HB1 ⊢
  clear hW
  obtain ⟨x0, x1, x2, x3, _⟩ := id HB0.out
  go_wp2_with (go_at_call 86; refine (HBt.out _).mono ?_; rintro e W1 ⟨rfl, hb⟩; have HL1 := Lib.hid (bstep HL0.out hb); have HX1 := Lib.hid (HB0.out.below hb); have HR1 := Lib.hid (HB1.out.below hb); clear hb)
  clear x0 x1 x2 x3 HL0 HB0 HB1 n0 n1
  refine wp_region_front 7 zvI (by kernel_rfl) shI (by kernel_rfl) (by kernel_rfl) (zvI_alloc _ (by kernel_rfl)) (shI_store _ (by kernel_rfl)) ?_
  intro mm BW hm1 hm2 hBW
  haveI := clm_some mm BW
  have fq0 := fun u : Clm mm BW => (HX1.out.clm hm1 hBW u).1
  have fr0 := fun u : Clm mm BW => (HX1.out.clm hm1 hBW u).2
  simp only [frontOf, unmade, List.take_succ_cons, List.take_zero, List.map_cons, List.map_nil]
  go_big_quiet_step ((go_at_call 62; exact quiet_clm hm2 HOf.out _))
  iterate 1 (go_big_quiet_step (fail))
  go_big_quiet_step ((go_at_call 80; exact quiet_clm hm2 HCn.out _))
  iterate 4 (go_big_quiet_step (fail))
  refine wpQuiet_nil ?_
  refine ⟨List.forall_mem_cons.2 ⟨by kernel_rfl, List.forall_mem_cons.2 ⟨by kernel_rfl, List.forall_mem_nil _⟩⟩, ?_⟩
  intro γ w9 hB9 hF
  clear hBW this hm1 hm2 fq0 fr0
  clear BW mm
  simp only [madesFrom, Facts, patch, List.take_succ_cons, List.take_zero, List.drop_succ_cons, List.drop_zero, Nat.zero_add, Nat.reduceAdd, List.mem_cons, List.not_mem_nil, or_false, forall_eq, forall_eq_or_imp, false_imp_iff, implies_true, and_true] at hF ⊢
  obtain ⟨⟨hp6, hl6, hk6, hn6⟩, hp7, hl7, hk7⟩ := hF
  obtain ⟨b6, hG⟩ : ∃ B, γ 3 = B := ⟨_, rfl⟩
  rw [hG] at hp6 hl6 hk6 hn6 ⊢
  clear hG
  obtain ⟨b7, hG⟩ : ∃ B, γ 4 = B := ⟨_, rfl⟩
  rw [hG] at hp7 hl7 hk7 hn6 ⊢
  clear hG
  have hr1 := HR1.out.lt
  have HS := Lib.hid (show PwSt w w9 b6 b7 u0 u1 from ⟨bstep HL1.out hB9, HR1.out.below hB9, bx_of hk6 hl6, bx_of hk7 hl7, Nat.lt_of_lt_of_le hr1 hp6, Nat.lt_of_lt_of_le hr1 hp7, hn6⟩)
  clear hB9 hp6 hl6 hk6 hn6 hp7 hl7 hk7 hr1 HL1 HX1 HR1 HOf HCn HBt
  go_wp2
  go_frame
  go_loopg [1] (N + 1) (fun gg v1 wr => ∃ m x y : Nat, v1 = .int .i64 m ∧ m < gg ∧ m ≤ N ∧ x + m * y = N ∧ PwSt w wr b6 b7 (z ^ x) (z ^ y))
  case atStart => exact ⟨N, 0, 1, rfl, Nat.lt_succ_self _, Nat.le_refl _, by omega, by rw [HU0.out, HU1.out]; exact HS.out⟩
  case round =>
    clear HS
    obtain ⟨m, x, y, rfl, hg, hmN, hxy, hs⟩ := hrel
    have HGG := Lib.hid hg
    have HXY := Lib.hid hxy
    have HS := Lib.hid hs
    have hmb : m ≤ 4096 := Nat.le_trans hmN HH1.out
    have HMN := Lib.hid hmN
    clear hg hxy hs hmN
    by_cases h0 : m = 0
    · subst h0
      have HZ := Lib.hid (show x = N by have := HXY.out; omega)
      obtain ⟨o0, o1, o2, o3, _⟩ := id HS.out.o
      obtain ⟨r0, r1, r2, r3, _⟩ := id HS.out.r
      go_wp2
      refine bodyPost_ret (v := .tuple #[.agg #[.bool (sgn (z ^ x)), .string (mg (z ^ x).natAbs)], .int .i64 0]) (by simp [results, Tryz.results61, go_sem, r0, r1]) rfl ?_
      refine ⟨by rw [HZ.out], (HS.out.be.setCell (p := ⟨w.heap.size + 1, 0, none⟩) (Nat.le_succ _) _).setCell (p := ⟨w.heap.size + 1, 1, none⟩) (Nat.le_succ _) _⟩
    · have t0 : (0 : Int) < m := by omega
      have HYN := Lib.hid (show y ≤ N by have h := HXY.out; have := Nat.le_mul_of_pos_left y (show 0 < m by omega); omega)
      have HXN := Lib.hid (show x ≤ N by have h := HXY.out; omega)
      have HM0 := Lib.hid h0
      clear h0
      have RO := HRP.out x HXN.out
      have RS := HRP.out y HYN.out
      obtain ⟨zo, hzo⟩ : ∃ zo, z ^ x = zo := ⟨_, rfl⟩
      obtain ⟨zs, hzs⟩ : ∃ zs, z ^ y = zs := ⟨_, rfl⟩
      rw [hzo] at RO HS
      rw [hzs] at RS HS
      have HMo := Lib.hid (fun X => cMulR RO RS X)
      have HMs := Lib.hid (fun X => cMulR RS RS X)
      obtain ⟨zm, hzm⟩ : ∃ zm, zo * zs = zm := ⟨_, rfl⟩
      obtain ⟨zq, hzq⟩ : ∃ zq, zs * zs = zq := ⟨_, rfl⟩
      rw [hzm] at HMo
      rw [hzq] at HMs
      have HZO := Lib.hid hzo
      have HZS := Lib.hid hzs
      have HZM := Lib.hid hzm
      have HZQ := Lib.hid hzq
      clear hzo hzs hzm hzq RO RS
      obtain ⟨o0, o1, o2, o3, _⟩ := id HS.out.o
      obtain ⟨q0, q1, q2, q3, _⟩ := id HS.out.q
      have hne : ¬ b6 = b7 := HS.out.ne
      have hne' : ¬ b7 = b6 := Ne.symm HS.out.ne
      have tk0 := Lib.hid trivial
      by_cases ho : m % 2 = 1
      · by_cases hm2 : 0 < m / 2
        · have t1 : (((m : Int) % 2) == 1) = true := by rw [beq_iff_eq]; omega
          have t2 : (0 : Int) < (m : Int) / 2 := by omega
          have HE := Lib.hid (show ((m / 2 : Nat) : Int) = (m : Int) / 2 by omega)
          have HN := Lib.hid (odd_step HXY.out ho)
          have HDV := Lib.hid (show m / 2 < m by omega)
          have HM2 := Lib.hid (show 0 < m / 2 by omega)
          clear ho hm2
          go_wp2_with (first | (go_at_call 85; have hz := tk0.out; clear hz; refine (HMo.out _).mono ?_; rintro e W1 ⟨rfl, hb⟩; have tk1 := Lib.hid trivial; clear tk0; have HS1 := Lib.hid (HS.out.below hb); clear hb o0 o1 o2 o3 q0 q1 q2 q3; obtain ⟨o0, o1, o2, o3, _⟩ := id HS1.out.o; obtain ⟨q0, q1, q2, q3, _⟩ := id HS1.out.q) | (go_at_call 85; have hz := tk1.out; clear hz; refine (HMs.out _).mono ?_; rintro e W2 ⟨rfl, hb⟩; clear tk1; have HS2 := Lib.hid ((HS1.out.set6 zm).below hb); clear hb o0 o1 o2 o3 q0 q1 q2 q3; obtain ⟨q0, q1, q2, q3, _⟩ := id HS2.out.q))
          go_roundg m
          case rel =>
            have hs := HS2.out.set7 zq
            refine ⟨m / 2, x + y, 2 * y, by rw [HE.out], HDV.out, by have := HMN.out; have := HDV.out; omega, ?_, ?_⟩
            · exact HN.out
            · rw [ipow_add, HZO.out, HZS.out, HZM.out, Nat.two_mul, ipow_add, HZS.out, HZQ.out]; exact hs
          case measure => exact HGG.out
        · have t1 : (((m : Int) % 2) == 1) = true := by rw [beq_iff_eq]; omega
          have t2 : ¬ (0 : Int) < (m : Int) / 2 := by omega
          have HE := Lib.hid (show ((m / 2 : Nat) : Int) = (m : Int) / 2 by omega)
          have HN := Lib.hid (odd_step HXY.out ho)
          have HDV := Lib.hid (show m / 2 < m by omega)
          have HM2 := Lib.hid (show m / 2 = 0 by omega)
          clear ho hm2
          go_wp2_with (first | (go_at_call 85; have hz := tk0.out; clear hz; refine (HMo.out _).mono ?_; rintro e W1 ⟨rfl, hb⟩; have tk1 := Lib.hid trivial; clear tk0; have HS1 := Lib.hid (HS.out.below hb); clear hb o0 o1 o2 o3 q0 q1 q2 q3; obtain ⟨o0, o1, o2, o3, _⟩ := id HS1.out.o; obtain ⟨q0, q1, q2, q3, _⟩ := id HS1.out.q))
          go_roundg m
          case rel =>
            have hs := HS1.out.set6 zm
            refine ⟨m / 2, x + y, y, by rw [HE.out], HDV.out, by have := HMN.out; have := HDV.out; omega, ?_, ?_⟩
            · have := HN.out; rw [HM2.out] at this ⊢; omega
            · rw [ipow_add, HZO.out, HZS.out, HZM.out]; exact hs
          case measure => exact HGG.out
      · by_cases hm2 : 0 < m / 2
        · have t1 : (((m : Int) % 2) == 1) = false := by rw [beq_eq_false_iff_ne]; omega
          have t2 : (0 : Int) < (m : Int) / 2 := by omega
          have HE := Lib.hid (show ((m / 2 : Nat) : Int) = (m : Int) / 2 by omega)
          have HN := Lib.hid (even_step HXY.out (show m % 2 = 0 by omega))
          have HDV := Lib.hid (show m / 2 < m by omega)
          have HM2 := Lib.hid (show 0 < m / 2 by omega)
          clear ho hm2
          go_wp2_with (first | (go_at_call 85; have hz := tk0.out; clear hz; refine (HMs.out _).mono ?_; rintro e W2 ⟨rfl, hb⟩; clear tk0; have HS2 := Lib.hid (HS.out.below hb); clear hb o0 o1 o2 o3 q0 q1 q2 q3; obtain ⟨q0, q1, q2, q3, _⟩ := id HS2.out.q))
          go_roundg m
          case rel =>
            have hs := HS2.out.set7 zq
            refine ⟨m / 2, x, 2 * y, by rw [HE.out], HDV.out, by have := HMN.out; have := HDV.out; omega, ?_, ?_⟩
            · exact HN.out
            · rw [HZO.out, Nat.two_mul, ipow_add, HZS.out, HZQ.out]; exact hs
          case measure => exact HGG.out
        · have t1 : (((m : Int) % 2) == 1) = false := by rw [beq_eq_false_iff_ne]; omega
          have t2 : ¬ (0 : Int) < (m : Int) / 2 := by omega
          have HE := Lib.hid (show ((m / 2 : Nat) : Int) = (m : Int) / 2 by omega)
          have HN := Lib.hid (even_step HXY.out (show m % 2 = 0 by omega))
          have HDV := Lib.hid (show m / 2 < m by omega)
          have HM2 := Lib.hid (show m / 2 = 0 by omega)
          clear ho hm2
          go_wp2
          go_roundg m
          case rel =>
            have hs := HS.out
            refine ⟨m / 2, x, y, by rw [HE.out], HDV.out, by have := HMN.out; have := HDV.out; omega, ?_, ?_⟩
            · have := HN.out; rw [HM2.out] at this ⊢; omega
            · rw [HZO.out, HZS.out]; exact hs
          case measure => exact HGG.out

end Go.Proofs.Gv
