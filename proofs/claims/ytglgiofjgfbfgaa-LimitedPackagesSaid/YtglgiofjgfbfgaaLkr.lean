/- measure.Kraft and measure.Fits at two letters. -/
import Derived.Test.YtglgiofjgfbfgaaLimOP
import Derived.Test.YtglgiofjgfbfgaaRatTP
import Derived.Test.YtglgiofjgfbfgaaRatJP
set_option linter.unusedSimpArgs false
set_option linter.unusedVariables false
namespace Go.Proofs.Gv
open Go Go.RowKit Go.Maps

theorem cPow2 (n : Nat) (hn : n ≤ 64) (W : World) :
    Calls Try.prog 112 #[.agg #[.bool false, .string (mg 2)], .int .i64 (n : Int)] W fun e w' => e = .returned (.tuple #[.agg #[.bool false, .string (mg (2 ^ n))], .int .i64 0]) ∧ Below W.heap.size W w' := by
  have := cPower (n : Int) (VN_rp (z := 2) (N := 62) (by decide) (by decide)) (by omega) (by omega) (by
    rw [Int.natAbs_natCast, Int.toNat_natCast]
    exact Nat.le_trans (Nat.mul_le_mul hn (bl_lt (N := 5) (by decide))) (by decide)) W
  rw [Int.toNat_natCast, show (((2 : Nat) : Int) ^ n) = ((2 ^ n : Nat) : Int) by simp, Int.natAbs_natCast, show sgn ((2 ^ n : Nat) : Int) = false from decide_eq_false (by exact Int.not_lt.2 (Int.natCast_nonneg _))] at this
  exact this
def k32 (ds : List Nat) : List Nat := ds.map fun d => 2 ^ (32 - d)
theorem k32_at {ds : List Nat} {i d : Nat} (h : ds[i]? = some d) : (k32 ds)[i]? = some (2 ^ (32 - d)) := by unfold k32; rw [List.getElem?_map, h]; rfl
theorem p32_lt (d : Nat) : 2 ^ (32 - d) < 2 ^ 33 := Nat.pow_lt_pow_right (by decide) (by omega)
theorem k32_lt (ds : List Nat) (hl : ds.length ≤ 1000) : (k32 ds).sum < 2 ^ 43 := sum_lt (N := 33) (fun z hz => by
    unfold k32 at hz
    obtain ⟨d, -, rfl⟩ := List.mem_map.1 hz
    exact p32_lt d) (by unfold k32; rw [List.length_map]; exact hl)
theorem kgood_any (k : Nat) (h1 : 1 ≤ k) (h2 : k ≤ 32) (w : World) : Calls Try.prog 111 #[.int .i64 (k : Int)] w fun e w' => e = .returned (.bool false) ∧ w' = w := by
  have h1I : decide ((k : Int) < 1) = false := by simp; omega
  have h2I : decide ((32 : Int) < (k : Int)) = false := by simp; omega
  go_enter Try.func111, Try.ntmps111
  go_wp2
  go_ret
  exact ⟨rfl, rfl⟩
set_option maxRecDepth 100000 in
set_option maxHeartbeats 1600000 in
theorem kidx_any {g c n : Nat} {ds : List Nat} (hn : ds.length = n) (hl : n ≤ 1000) (hd : ∀ d ∈ ds, 1 ≤ d ∧ d ≤ 32) (w : World) (h : BC w g (natV ds)) :
    Calls Try.prog 97 #[.slice (some ⟨g, 0, none⟩) n c, .func (.func 111) #[] #[]] w fun e w' => e = .returned (.int .i64 (-1)) ∧ w' = w := by
  have HN := Lib.hid hn
  have HD := Lib.hid hd
  have HA := Lib.hid h
  clear hd h hn
  go_enter Try.func97, Try.ntmps97
  go_wp2
  go_loopg [8] (n + 1) (fun gg v8 wr => ∃ i : Nat, v8 = .int .i64 (i : Int) ∧ i ≤ n ∧ n - i < gg ∧ wr = w)
  case atStart => exact ⟨0, rfl, Nat.zero_le _, by omega, rfl⟩
  case round =>
    obtain ⟨i, rfl, hi, hig, ew⟩ := hrel
    subst ew
    have HG := Lib.hid hig
    clear hig
    by_cases hlt : i < n
    · have hltI : (i : Int) < n := by omega
      obtain ⟨x, hx2⟩ : ∃ x, ds[i]? = some x := ⟨ds[i]'(by rw [HN.out]; exact hlt), List.getElem?_eq_getElem _⟩
      have c0 := HA.out.at i _ (natV_is hx2)
      have HCB := Lib.hid (fun W => kgood_any x (HD.out x (List.mem_of_getElem? hx2)).1 (HD.out x (List.mem_of_getElem? hx2)).2 W)
      clear hx2
      go_wp2_with fail
      refine (HCB.out _).mono ?_
      rintro e w1 ⟨rfl, ew⟩
      subst ew
      go_wp2
      go_roundg (n - i)
      case rel => exact ⟨i + 1, by go_num, by omega, by omega, rfl⟩
      case measure => have := HG.out; omega
    · obtain rfl : i = n := by omega
      have hB : decide ((i : Int) < i) = false := by simp
      go_wp2
      go_ret
      exact ⟨rfl, rfl⟩
set_option maxHeartbeats 800000 in
theorem kcon_any {g c n : Nat} {ds : List Nat} (hn : ds.length = n) (hl : n ≤ 1000) (hd : ∀ d ∈ ds, 1 ≤ d ∧ d ≤ 32) (w : World) (h : BC w g (natV ds)) :
    Calls Try.prog 54 #[.slice (some ⟨g, 0, none⟩) n c, .func (.func 111) #[] #[]] w fun e w' => e = .returned (.bool false) ∧ w' = w := by
  have HI := Lib.hid (kidx_any (c := c) hn hl hd w h)
  clear h hn hd
  go_enter Try.func54, Try.ntmps54
  go_wp2_with fail
  refine HI.out.mono ?_
  rintro e w1 ⟨rfl, ew⟩
  subst ew
  go_wp2
  go_ret
  exact ⟨rfl, rfl⟩
set_option maxRecDepth 100000 in
set_option maxHeartbeats 4000000 in
theorem kraft_any {g c n : Nat} {ds : List Nat} (hn : ds.length = n) (hl : n ≤ 1000) (hd : ∀ d ∈ ds, 1 ≤ d ∧ d ≤ 32) (w : World) (hr : BC w g (natV ds)) :
    Calls Try.prog 73 #[.int .i64 2, .slice (some ⟨g, 0, none⟩) n c] w (RetQE w (Rat.divInt ((krL 32 ds : Nat) : Int) ((2 ^ 32 : Nat) : Int)) 0) := by
  subst hn
  have HR := Lib.hid hr
  have HD := Lib.hid hd
  have HKC := Lib.hid (fun W h => kcon_any (g := g) (c := c) rfl hl hd W h)
  have HPL := Lib.hid (k32_lt ds hl)
  have HQ := Lib.hid (fun W => cOfN 2 (by decide) W)
  have HPW := Lib.hid (fun d W => cPow2 (32 - d) (by omega) W)
  have HP32 := Lib.hid (fun W => cPow2 32 (by decide) W)
  have HPX := Lib.hid p32_lt
  have hmI : (ds.length : Int) ≤ 1000 := by omega
  clear hr hd
  have HB4 := Lib.hid (BC.new w w.heap.size #[.bool false, .string ⟨#[]⟩, .bool false, .string ⟨#[]⟩] 108 rfl)
  have HL := Lib.hid ((Below.refl w.heap.size w).alloc (Nat.le_refl _) (.cells #[.bool false, .string ⟨#[]⟩, .bool false, .string ⟨#[]⟩] 108))
  go_enter Try.func73, Try.ntmps73
  have hdn : decide ((4096 : Int) < (ds.length : Int)) = false := by simp; omega
  go_wp2_with fail
  refine (HKC.out _ (HR.out.alloc _)).mono ?_
  rintro e w1 ⟨rfl, ew⟩
  subst ew
  have HB6 := Lib.hid (BC.new (w.alloc (.cells #[.bool false, .string ⟨#[]⟩, .bool false, .string ⟨#[]⟩] 108)) (w.heap.size + 1) #[.bool false, .string ⟨#[]⟩] 29 (by simp))
  have HB4a := Lib.hid (HB4.out.alloc (.cells #[.bool false, .string ⟨#[]⟩] 29))
  have HL1 := Lib.hid (HL.out.alloc (by simp) (.cells #[.bool false, .string ⟨#[]⟩] 29))
  go_upto_region 8 with fail
  obtain ⟨W1, hW1⟩ : ∃ X, (w.alloc (.cells #[.bool false, .string ⟨#[]⟩, .bool false, .string ⟨#[]⟩] 108)).alloc (.cells #[.bool false, .string ⟨#[]⟩] 29) = X := ⟨_, rfl⟩
  rw [hW1] at HB6 HB4a HL1 ⊢
  clear hW1 HB4 HL HKC
  rw [show (BC W1 (w.heap.size + 1) [.bool false, .string ⟨#[]⟩]) = (BC W1 (w.heap.size + 1) [.bool false, .string (mg 0)]) from by rw [mg_zero]] at HB6
  obtain ⟨B4, hB4⟩ : ∃ B, w.heap.size = B := ⟨_, rfl⟩
  have HBE := Lib.hid hB4
  rw [hB4] at HB6 HB4a HL1 ⊢
  obtain ⟨B6, hB6⟩ : ∃ B, B4 + 1 = B := ⟨_, rfl⟩
  have HO := Lib.hid (show B4 < B6 from by omega)
  rw [hB6] at HB6 ⊢
  clear hB4 hB6
  go_wp2_with fail
  go_loopg [32] (ds.length + 1) (fun gg x32 wr => ∃ i : Nat, x32 = .int .i64 (i : Int) ∧ i ≤ ds.length ∧ ds.length - i < gg ∧ Below B4 w wr ∧ BC wr B4 [.bool false, .string ⟨#[]⟩, .bool false, .string ⟨#[]⟩] ∧ BC wr B6 [.bool false, .string (mg ((k32 ds).take i).sum)])
  case atStart => exact ⟨0, rfl, Nat.zero_le _, by omega, HL1.out, HB4a.out, HB6.out⟩
  case round =>
    obtain ⟨i, rfl, hi, hig, hbl, h4, h6⟩ := hrel
    have HGG := Lib.hid hig
    have HLr := Lib.hid hbl
    have H4 := Lib.hid h4
    have H6 := Lib.hid h6
    clear hig hbl h4 h6 HL1 HB4a HB6 hdn
    by_cases hlt : i < ds.length
    · have hltI : (i : Int) < ds.length := by omega
      obtain ⟨d, hd⟩ : ∃ d, ds[i]? = some d := ⟨ds[i], List.getElem?_eq_getElem hlt⟩
      have hd1 := (HD.out d (List.mem_of_getElem? hd)).1
      have hd2 := (HD.out d (List.mem_of_getElem? hd)).2
      have c0 := (HR.out.below (by rw [HBE.out]; exact HLr.out)).at i _ (natV_is hd)
      have HSX := Lib.hid (show ((k32 ds).take (i + 1)).sum = ((k32 ds).take i).sum + 2 ^ (32 - d) from take_sum_succ (k32_at hd))
      have HST := Lib.hid (show ((k32 ds).take i).sum < 2 ^ 43 from Nat.lt_of_le_of_lt (take_sum_le _ i) HPL.out)
      have HPd := Lib.hid (show ∀ W, Calls Try.prog 112 #[.agg #[.bool false, .string (mg 2)], .int .i64 (32 - (d : Int))] W fun e w' => e = .returned (.tuple #[.agg #[.bool false, .string (mg (2 ^ (32 - d)))], .int .i64 0]) ∧ Below W.heap.size W w' from fun W => by have := HPW.out d W; rwa [show ((32 - d : Nat) : Int) = 32 - (d : Int) by omega] at this)
      have HXd := Lib.hid (HPX.out d)
      clear hd
      obtain ⟨p, hp⟩ : ∃ p, 2 ^ (32 - d) = p := ⟨_, rfl⟩
      rw [hp] at HSX HPd HXd
      clear hp
      go_wp2_with fail
      refine (HQ.out _).mono ?_
      rintro e w2 ⟨rfl, hb2⟩
      go_wp2_with fail
      refine (HPd.out _).mono ?_
      rintro e w3 ⟨rfl, hb3⟩
      have hbA := bstep hb2 (bstep hb3 ((Below.refl _ w3).alloc (Nat.le_refl _) (.cells #[.bool false, .string (mg p)] 29)))
      have H6a := Lib.hid (H6.out.below hbA)
      have H9 := Lib.hid (BC.new w3 w3.heap.size #[.bool false, .string (mg p)] 29 rfl)
      have HLa := Lib.hid (HLr.out.trans (hbA.mono (by have := HLr.out.size; have := HBE.out; omega)))
      have H4a := Lib.hid (H4.out.below hbA)
      obtain ⟨W3, hW3⟩ : ∃ W, w3.alloc (.cells #[.bool false, .string (mg p)] 29) = W := ⟨_, rfl⟩
      obtain ⟨B9, hB9⟩ : ∃ B, w3.heap.size = B := ⟨_, rfl⟩
      rw [hW3] at H6a H9 HLa H4a
      rw [hB9] at H9
      clear hb2 hb3 hbA c0 H6 H4 HLr
      have x0 := H6a.out.at 0 _ rfl
      have x1 := H6a.out.at 1 _ rfl
      have x2 := H9.out.at 0 _ rfl
      have x3 := H9.out.at 1 _ rfl
      go_wp2_with fail
      clear hW3 hB9
      refine (cAddN 43 33 HST.out HXd.out (by decide) (by decide) _).mono ?_
      rintro e w4 ⟨rfl, hb4⟩
      have H6b := Lib.hid (H6a.out.below hb4)
      have HLb := Lib.hid (HLa.out.trans (hb4.mono (by have := HLa.out.size; have := HBE.out; omega)))
      have H4b := Lib.hid (H4a.out.below hb4)
      clear hb4 x0 x1 x2 x3 H6a HLa H4a H9
      have y0 := H6b.out.at 0 _ rfl
      have y1 := H6b.out.at 1 _ rfl
      have y2 := H6b.out.z 0 (by simp)
      have y3 := H6b.out.z 1 (by simp)
      go_wp2_with fail
      go_roundg (ds.length - i)
      case rel =>
        refine ⟨i + 1, by go_num, by omega, by omega, ?_, ?_, ?_⟩
        · have := HO.out
          exact (HLb.out.setCell (p := ⟨B6, 0, none⟩) (by simp; omega) _).setCell (p := ⟨B6, 1, none⟩) (by simp; omega) _
        · exact H4b.out.other2 0 1 _ _ (by have := HO.out; omega)
        · rw [HSX.out]
          exact H6b.out.set2 0 1 (.bool false) (.string (mg (((k32 ds).take i).sum + p))) (by simp) (by simp)
      case measure => have := HGG.out; omega
    · obtain rfl : i = ds.length := by omega
      have hB : decide ((ds.length : Int) < ds.length) = false := by simp
      have hT : ((k32 ds).take ds.length).sum = krL 32 ds := by rw [List.take_of_length_le (by unfold k32; rw [List.length_map]; exact Nat.le_refl _)]; rfl
      rw [hT] at H6
      have HPL' := Lib.hid (show krL 32 ds < 2 ^ 43 from HPL.out)
      obtain ⟨S, hS⟩ : ∃ S, krL 32 ds = S := ⟨_, rfl⟩
      obtain ⟨p, hp⟩ : ∃ p, 2 ^ 32 = p := ⟨_, rfl⟩
      rw [hS] at H6 HPL'
      rw [hp] at HP32
      have HNW := Lib.hid (fun W => cQNew (x := (S : Int)) (y := (p : Int)) (VN_rp (N := 43) HPL'.out (by decide)) (VN_rp (z := p) (N := 33) (by rw [← hp]; decide) (by decide)) (by rw [← hp]; decide) W)
      obtain ⟨Qr, hQr⟩ : ∃ x, Rat.divInt (S : Int) (p : Int) = x := ⟨_, rfl⟩
      rw [hQr] at HNW
      have HFIN := Lib.hid (show Rat.divInt ((krL 32 ds : Nat) : Int) ((2 ^ 32 : Nat) : Int) = Qr from by rw [hS, hp]; exact hQr)
      clear hT hS hp hQr HPL'
      go_wp2_with fail
      refine (HQ.out _).mono ?_
      rintro e w2 ⟨rfl, hb2⟩
      go_wp2_with fail
      refine (HP32.out _).mono ?_
      rintro e w3 ⟨rfl, hb3⟩
      have hbA := bstep hb2 (bstep hb3 ((Below.refl _ w3).alloc (Nat.le_refl _) (.cells #[.bool false, .string (mg p)] 29)))
      have H6a := Lib.hid (H6.out.below hbA)
      have H9 := Lib.hid (BC.new w3 w3.heap.size #[.bool false, .string (mg p)] 29 rfl)
      have HLa := Lib.hid (HLr.out.trans (hbA.mono (by have := HLr.out.size; have := HBE.out; omega)))
      have H4a := Lib.hid (H4.out.below hbA)
      obtain ⟨W3, hW3⟩ : ∃ W, w3.alloc (.cells #[.bool false, .string (mg p)] 29) = W := ⟨_, rfl⟩
      obtain ⟨B9, hB9⟩ : ∃ B, w3.heap.size = B := ⟨_, rfl⟩
      rw [hW3] at H6a H9 HLa H4a
      rw [hB9] at H9
      clear hb2 hb3 hbA H6 H4 HLr
      have x0 := H6a.out.at 0 _ rfl
      have x1 := H6a.out.at 1 _ rfl
      have x2 := H9.out.at 0 _ rfl
      have x3 := H9.out.at 1 _ rfl
      go_wp2_with fail
      clear hW3 hB9
      refine (HNW.out _).mono ?_
      rintro e w4 ⟨rfl, hb4⟩
      have HLb := Lib.hid (HLa.out.trans (hb4.mono (by have := HLa.out.size; have := HBE.out; omega)))
      have H4b := Lib.hid (H4a.out.below hb4)
      clear hb4 x0 x1 x2 x3 H6a HLa H4a H9
      have y0 := H4b.out.at 0 _ rfl
      have y1 := H4b.out.at 1 _ rfl
      have y2 := H4b.out.at 2 _ rfl
      have y3 := H4b.out.at 3 _ rfl
      have z0 := H4b.out.z 0 (by simp)
      have z1 := H4b.out.z 1 (by simp)
      have z2 := H4b.out.z 2 (by simp)
      have z3 := H4b.out.z 3 (by simp)
      go_wp2_with fail
      have e4 := ((((H4b.out.set 0 (.bool (sgn Qr.num)) (by simp)).set 1 (.string (mg Qr.num.natAbs)) (by simp)).set 2 (.bool false) (by simp)).set 3 (.string (mg Qr.den)) (by simp))
      have f0 := e4.at 0 _ rfl
      have f1 := e4.at 1 _ rfl
      have f2 := e4.at 2 _ rfl
      have f3 := e4.at 3 _ rfl
      refine bodyPost_ret (v := .tuple #[.agg #[.bool (sgn Qr.num), .string (mg Qr.num.natAbs), .bool false, .string (mg Qr.den)], .int .i64 0]) (by simp [results, Try.results73, go_sem, f0, f1, f2, f3]) rfl ?_
      rw [HFIN.out]
      refine ⟨rfl, ?_⟩
      rw [HBE.out]
      exact ((((HLb.out.setCell (p := ⟨B4, 0, none⟩) (Nat.le_refl _) _).setCell (p := ⟨B4, 1, none⟩) (Nat.le_refl _) _).setCell (p := ⟨B4, 2, none⟩) (Nat.le_refl _) _).setCell (p := ⟨B4, 3, none⟩) (Nat.le_refl _) _)
/-- The sum of powers as a number. -/
theorem krQ_le (S : Nat) : Rat.divInt (S : Int) ((2 ^ 32 : Nat) : Int) ≤ 1 ↔ S ≤ 2 ^ 32 := by
  have h0 : (((2 ^ 32 : Nat) : Int) : Rat) ≠ 0 := by decide +kernel
  have e : Rat.divInt (S : Int) ((2 ^ 32 : Nat) : Int) * (((2 ^ 32 : Nat) : Int) : Rat) = (((S : Nat) : Int) : Rat) := by rw [Rat.divInt_eq_div, Rat.div_mul_cancel h0]
  have h1 : (((2 ^ 32 : Nat) : Int) : Rat) = 4294967296 := by decide +kernel
  have h2 := Rat.intCast_le_intCast (a := (S : Int)) (b := ((2 ^ 32 : Nat) : Int))
  rw [h1] at e h2
  rw [show (S ≤ 2 ^ 32) ↔ ((S : Int) ≤ ((2 ^ 32 : Nat) : Int)) from by omega, ← h2]
  obtain ⟨q, hq⟩ : ∃ x, Rat.divInt (S : Int) ((2 ^ 32 : Nat) : Int) = x := ⟨_, rfl⟩
  obtain ⟨z, hz⟩ : ∃ x, (((S : Nat) : Int) : Rat) = x := ⟨_, rfl⟩
  rw [hq, hz] at e
  rw [hq, hz]
  constructor <;> intro h <;> grind
theorem krQ_cmp (S : Nat) : decide (cmpQ (Rat.divInt (S : Int) ((2 ^ 32 : Nat) : Int)) 1 ≤ 0) = decide (S ≤ 2 ^ 32) := by
  rw [decide_eq_decide, ← krQ_le]
  rcases cmpQ_cases (Rat.divInt (S : Int) ((2 ^ 32 : Nat) : Int)) 1 with ⟨h, e, -⟩ | ⟨h, e, -⟩ | ⟨h, e, -⟩
  · rw [e]; exact ⟨fun _ => by grind, fun _ => by decide⟩
  · rw [e]; exact ⟨fun _ => by grind, fun _ => by decide⟩
  · rw [e]; exact ⟨fun h2 => absurd h2 (by decide), fun h2 => by grind⟩
theorem krQ_b (S : Nat) (h : S < 2 ^ 43) : Qb 43 (Rat.divInt (S : Int) ((2 ^ 32 : Nat) : Int)) :=
  Qb.div (by rw [Int.natAbs_natCast]; exact h) (by decide) (by decide)
theorem one75_any (W : World) : Calls Try.prog 75 #[] W (RetQ W 1) := by
  have HO := Lib.hid cOne
  have HB4 := Lib.hid (BC.new W W.heap.size #[.bool false, .string ⟨#[]⟩, .bool false, .string ⟨#[]⟩] 108 rfl)
  have HL := Lib.hid ((Below.refl W.heap.size W).alloc (Nat.le_refl _) (.cells #[.bool false, .string ⟨#[]⟩, .bool false, .string ⟨#[]⟩] 108))
  have HQ := Lib.hid (fun W => cQOf Rp.one W)
  go_enter Try.func75, Try.ntmps75
  go_wp2_with fail
  refine (HO.out _).mono ?_
  rintro e w1 ⟨rfl, hb1⟩
  go_wp2_with fail
  refine (HQ.out _).mono ?_
  rintro e w2 ⟨rfl, hb2⟩
  have hb := bstep HL.out (bstep hb1 hb2)
  have e0 := HB4.out.below (bstep hb1 hb2)
  have y0 := e0.at 0 _ rfl
  have y1 := e0.at 1 _ rfl
  have y2 := e0.at 2 _ rfl
  have y3 := e0.at 3 _ rfl
  have z0 := e0.z 0 (by simp)
  have z1 := e0.z 1 (by simp)
  have z2 := e0.z 2 (by simp)
  have z3 := e0.z 3 (by simp)
  have HE0 := Lib.hid e0
  have HBB := Lib.hid hb
  clear hb e0 hb1 hb2
  go_wp2_with fail
  have e4 := ((((HE0.out.set 0 (.bool (sgn 1)) (by simp)).set 1 (.string (mg 1)) (by simp)).set 2 (.bool false) (by simp)).set 3 (.string (mg 1)) (by simp))
  have f0 := e4.at 0 _ rfl
  have f1 := e4.at 1 _ rfl
  have f2 := e4.at 2 _ rfl
  have f3 := e4.at 3 _ rfl
  refine bodyPost_ret (v := .agg #[.bool (sgn 1), .string (mg 1), .bool false, .string (mg 1)]) (by simp [results, Try.results75, go_sem, f0, f1, f2, f3]) rfl ?_
  exact ⟨rfl, (((HBB.out.setCell (p := ⟨W.heap.size, 0, none⟩) (Nat.le_refl _) _).setCell (p := ⟨W.heap.size, 1, none⟩) (Nat.le_refl _) _).setCell (p := ⟨W.heap.size, 2, none⟩) (Nat.le_refl _) _).setCell (p := ⟨W.heap.size, 3, none⟩) (Nat.le_refl _) _⟩
set_option maxRecDepth 100000 in
set_option maxHeartbeats 4000000 in
/-- Fits at two letters: Kraft's inequality. -/
theorem mfits_any {g c n : Nat} {ds : List Nat} (hn : ds.length = n) (hl : n ≤ 1000) (hd : ∀ d ∈ ds, 1 ≤ d ∧ d ≤ 32) (w : World) (hr : BC w g (natV ds)) :
    Calls Try.prog 31 #[.int .i64 2, .slice (some ⟨g, 0, none⟩) n c] w fun e w' => e = .returned (.tuple #[.bool (decide (krL 32 ds ≤ 2 ^ 32)), .int .i64 0]) ∧ Below w.heap.size w w' := by
  have HK := Lib.hid (kraft_any (c := c) hn hl hd w hr)
  have hlt : krL 32 ds < 2 ^ 43 := k32_lt ds (by omega)
  have hqb := krQ_b _ hlt
  have hone : Qb 43 (1 : Rat) := ⟨by decide, by decide⟩
  have HC := Lib.hid (fun W => cQCmp (Rq.V hqb (by decide)) (Rq.V hone (by decide)) W)
  have HO := Lib.hid one75_any
  unfold RetQ at HO
  unfold RetQE at HK
  have hcm := krQ_cmp (krL 32 ds)
  obtain ⟨Qr, hQr⟩ : ∃ x, Rat.divInt ((krL 32 ds : Nat) : Int) ((2 ^ 32 : Nat) : Int) = x := ⟨_, rfl⟩
  rw [hQr] at HK HC hcm
  obtain ⟨B, hB⟩ : ∃ x, decide (krL 32 ds ≤ 2 ^ 32) = x := ⟨_, rfl⟩
  rw [hB] at hcm ⊢
  obtain ⟨r, hrr⟩ : ∃ x, cmpQ Qr 1 = x := ⟨_, rfl⟩
  rw [hrr] at hcm HC
  clear hd hr hn hlt hqb hone hQr hB hrr
  go_enter Try.func31, Try.ntmps31
  go_wp2_with fail
  refine HK.out.mono ?_
  rintro e w1 ⟨rfl, hb1⟩
  have hal : Below w1.heap.size w1 (w1.alloc (.cells #[.bool (sgn Qr.num), .string (mg Qr.num.natAbs), .bool false, .string (mg Qr.den)] 108)) := (Below.refl _ _).alloc (Nat.le_refl _) _
  have HD1 := Lib.hid (hb1.trans (hal.mono hb1.size))
  have HP1 := Lib.hid (BC.new w1 w1.heap.size #[.bool (sgn Qr.num), .string (mg Qr.num.natAbs), .bool false, .string (mg Qr.den)] 108 rfl)
  clear hb1 hal HK
  go_wp2_with fail
  obtain ⟨b6, hb6⟩ : ∃ b, w1.heap.size = b := ⟨_, rfl⟩
  rw [hb6] at HP1 ⊢
  obtain ⟨Y, hY⟩ : ∃ X, w1.alloc (.cells #[.bool (sgn Qr.num), .string (mg Qr.num.natAbs), .bool false, .string (mg Qr.den)] 108) = X := ⟨_, rfl⟩
  rw [hY] at HD1 HP1 ⊢
  clear hY hb6
  haveI := cls_some Y
  have f0 : ∀ u : Cl Y, u.x.cell? ⟨b6, 0, none⟩ = some (.bool (sgn Qr.num)) := fun u => (HP1.out.below u.h).at 0 _ rfl
  have f1 : ∀ u : Cl Y, u.x.cell? ⟨b6, 1, none⟩ = some (.string (mg Qr.num.natAbs)) := fun u => (HP1.out.below u.h).at 1 _ rfl
  have f2 : ∀ u : Cl Y, u.x.cell? ⟨b6, 2, none⟩ = some (.bool false) := fun u => (HP1.out.below u.h).at 2 _ rfl
  have f3 : ∀ u : Cl Y, u.x.cell? ⟨b6, 3, none⟩ = some (.string (mg Qr.den)) := fun u => (HP1.out.below u.h).at 3 _ rfl
  refine wp_region_cls (by kernel_rfl) ?_
  iterate 4 (go_big_quiet_step (fail))
  go_big_quiet_step ((go_at_call 75; exact quiet_cls HO.out _))
  go_big_quiet_step ((go_at_call 74; exact quiet_cls HC.out _))
  iterate 5 (go_big_quiet_step (fail))
  refine wpQuiet_nil ?_
  intro w7 hw7
  obtain ⟨u7, rfl⟩ := hw7
  go_wp2
  refine bodyPost_ret (v := .tuple #[.bool B, .int .i64 0]) (by simp [results, Try.results31, go_sem]) rfl ?_
  exact ⟨rfl, bstep HD1.out u7.h⟩
end Go.Proofs.Gv
