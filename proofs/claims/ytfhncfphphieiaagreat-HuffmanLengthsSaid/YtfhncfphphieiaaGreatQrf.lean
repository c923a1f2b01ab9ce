import Derived.Test.YtfhncfphphieiaaGreatQrpP
set_option maxHeartbeats 4000000
set_option maxRecDepth 100000
set_option linter.unusedSimpArgs false
set_option linter.unusedVariables false
namespace Go.Proofs.Gv
open Go Go.RowKit Go.Maps
def rS (q S : Nat) : Rat := Rat.divInt (S : Int) ((q ^ 32 : Nat) : Int)
theorem rS_ne {q : Nat} (hq : 1 ≤ q) : (((q ^ 32 : Nat) : Int) : Rat) ≠ 0 := by
 intro e
 have : ((q ^ 32 : Nat) : Int) = 0 := by exact_mod_cast e
 have h : 0 < q ^ 32 := Nat.pow_pos hq
 omega
theorem rS_mul {q : Nat} (hq : 1 ≤ q) (S : Nat) : rS q S * (((q ^ 32 : Nat) : Int) : Rat) = (((S : Nat) : Int) : Rat) := by
 unfold rS
 rw [Rat.divInt_eq_div, Rat.div_mul_cancel (rS_ne hq)]
theorem rS_inj {q : Nat} (hq : 1 ≤ q) {a b : Rat} (h : a * (((q ^ 32 : Nat) : Int) : Rat) = b * (((q ^ 32 : Nat) : Int) : Rat)) : a = b := by
 have h0 := rS_ne hq
 grind
theorem rS_add {q : Nat} (hq : 1 ≤ q) (S T : Nat) : rS q S + rS q T = rS q (S + T) := by
 apply rS_inj hq
 rw [Rat.add_mul, rS_mul hq, rS_mul hq, rS_mul hq]
 push_cast
 rfl
theorem rS_pow {q : Nat} (hq : 1 ≤ q) {d : Nat} (hd : d ≤ 32) : (Rat.divInt 1 (q : Int)) ^ d = rS q (q ^ (32 - d)) := by
 have hq0 : (((q : Nat) : Int) : Rat) ≠ 0 := by
  intro e
  have : ((q : Nat) : Int) = 0 := by exact_mod_cast e
  omega
 have h1 : Rat.divInt 1 (q : Int) * (((q : Nat) : Int) : Rat) = 1 := by
  rw [Rat.divInt_eq_div, Rat.div_mul_cancel hq0]
  rfl
 have key : ∀ k, (Rat.divInt 1 (q : Int)) ^ k * (((q ^ k : Nat) : Int) : Rat) = 1 := by
  intro k
  induction k with
  | zero => simp
  | succ k ih =>
    rw [Rat.pow_succ, Nat.pow_succ]
    have e : (((q ^ k * q : Nat) : Int) : Rat) = (((q ^ k : Nat) : Int) : Rat) * (((q : Nat) : Int) : Rat) := by push_cast; rfl
    rw [e]
    generalize (Rat.divInt 1 (q : Int)) ^ k = x at ih ⊢
    generalize Rat.divInt 1 (q : Int) = y at h1 ⊢
    generalize (((q ^ k : Nat) : Int) : Rat) = u at ih ⊢
    generalize (((q : Nat) : Int) : Rat) = v at h1 ⊢
    grind
 apply rS_inj hq
 rw [rS_mul hq]
 have e : (((q ^ 32 : Nat) : Int) : Rat) = (((q ^ d : Nat) : Int) : Rat) * (((q ^ (32 - d) : Nat) : Int) : Rat) := by
  have : q ^ 32 = q ^ d * q ^ (32 - d) := by rw [← Nat.pow_add]; congr 1; omega
  rw [this]
  push_cast
  rfl
 rw [e, ← Rat.mul_assoc, key d, Rat.one_mul]
theorem rS_qb {q S : Nat} (h2 : q ≤ 16) (hS : S < 2 ^ 139) : Qb 140 (rS q S) := Qb.div (by
  rw [Int.natAbs_natCast]; exact Nat.lt_of_lt_of_le hS (by decide)) (by
  rw [Int.natAbs_natCast]; exact Nat.lt_of_lt_of_le (by have := pq_lt h2 0; simpa using this) (by decide)) (by decide)
theorem ratio36_any (x y : Int) (hx : -100 ≤ x ∧ x ≤ 100) (hy : 0 < y ∧ y ≤ 100) (W : World) : Calls Tryz.prog 88 #[.int .i64 x, .int .i64 y] W (RetQ W (Rat.divInt x y)) := by
 have HR := Lib.hid (fun W => rrRatioP (x := x) (y := y) (by omega) (by omega) (by omega) (by omega) W)
 unfold RetQE at HR
 unfold RetQ
 obtain ⟨Q, hQ⟩ : ∃ Q, Rat.divInt x y = Q := ⟨_, rfl⟩
 rw [hQ] at HR ⊢
 obtain ⟨b4, hb4⟩ : ∃ b, W.heap.size = b := ⟨_, rfl⟩
 have HBE := Lib.hid hb4
 have HB4 := Lib.hid (BC.new W b4 #[.bool false, .string ⟨#[]⟩, .bool false, .string ⟨#[]⟩] 85 hb4.symm)
 have HL := Lib.hid ((Below.refl W.heap.size W).alloc (Nat.le_refl _) (.cells #[.bool false, .string ⟨#[]⟩, .bool false, .string ⟨#[]⟩] 85))
 clear hQ hx hy
 go_enter Tryz.func88, Tryz.ntmps88
 go_wp2_with fail
 refine (HR.out _).mono ?_
 rintro e w1 ⟨rfl, hb1⟩
 have hal : Below w1.heap.size w1 (w1.alloc (.cells #[.bool (sgn Q.num), .string (mg Q.num.natAbs), .bool false, .string (mg Q.den)] 85)) := (Below.refl _ _).alloc (Nat.le_refl _) _
 have hst := hb1.trans (hal.mono hb1.size)
 have HL1 := Lib.hid (bstep HL.out hst)
 have HB41 := Lib.hid (HB4.out.below hst)
 have HP5 := Lib.hid (BC.new w1 w1.heap.size #[.bool (sgn Q.num), .string (mg Q.num.natAbs), .bool false, .string (mg Q.den)] 85 rfl)
 clear hb1 hal hst HL HB4
 go_upto_region 2 with fail
 obtain ⟨b5, hb5⟩ : ∃ b, w1.heap.size = b := ⟨_, rfl⟩
 rw [hb5] at HP5 ⊢
 obtain ⟨X, hX⟩ : ∃ X, w1.alloc (.cells #[.bool (sgn Q.num), .string (mg Q.num.natAbs), .bool false, .string (mg Q.den)] 85) = X := ⟨_, rfl⟩
 rw [hX] at HL1 HB41 HP5 ⊢
 clear hX hb5 hb4
 have p0 := HP5.out.at 0 _ rfl
 have p1 := HP5.out.at 1 _ rfl
 have p2 := HP5.out.at 2 _ rfl
 have p3 := HP5.out.at 3 _ rfl
 have y0 := HB41.out.at 0 _ rfl
 have y1 := HB41.out.at 1 _ rfl
 have y2 := HB41.out.at 2 _ rfl
 have y3 := HB41.out.at 3 _ rfl
 have z0 := HB41.out.z 0 (by simp)
 have z1 := HB41.out.z 1 (by simp)
 have z2 := HB41.out.z 2 (by simp)
 have z3 := HB41.out.z 3 (by simp)
 go_wp2_with fail
 have e4 := ((((HB41.out.set 0 (.bool (sgn Q.num)) (by simp)).set 1 (.string (mg Q.num.natAbs)) (by simp)).set 2 (.bool false) (by simp)).set 3 (.string (mg Q.den)) (by simp))
 have f0 := e4.at 0 _ rfl
 have f1 := e4.at 1 _ rfl
 have f2 := e4.at 2 _ rfl
 have f3 := e4.at 3 _ rfl
 refine bodyPost_ret (v := .agg #[.bool (sgn Q.num), .string (mg Q.num.natAbs), .bool false, .string (mg Q.den)]) (by simp [results, Tryz.results88, go_sem, f0, f1, f2, f3]) rfl ?_
 have hbe := HBE.out
 exact ⟨rfl, (((HL1.out.setCell (p := ⟨b4, 0, none⟩) (by show W.heap.size ≤ b4; omega) _).setCell (p := ⟨b4, 1, none⟩) (by show W.heap.size ≤ b4; omega) _).setCell (p := ⟨b4, 2, none⟩) (by show W.heap.size ≤ b4; omega) _).setCell (p := ⟨b4, 3, none⟩) (by show W.heap.size ≤ b4; omega) _⟩
theorem part36_any (q d : Nat) (hq : 2 ≤ q) (hq16 : q ≤ 16) (hd : d ≤ 32) (W : World) : Calls Tryz.prog 109 #[.int .i64 (q : Int), .int .i64 (d : Int)] W (RetQ W (rS q (q ^ (32 - d)))) := by
 have HR0 := Lib.hid (fun W => ratio36_any 1 (q : Int) (by omega) (by omega) W)
 have hqb : Qb 10 (Rat.divInt 1 (q : Int)) := Qb.div (by decide) (by rw [Int.natAbs_natCast]; omega) (by decide)
 have HR := Lib.hid (fun W => rrPowP (Rq.V hqb (by decide)) (pDen _) hqb d (by omega) (by omega) W)
 rw [rS_pow (by omega) hd] at HR
 unfold RetQE at HR
 unfold RetQ at HR0 ⊢
 obtain ⟨Q, hQ⟩ : ∃ Q, rS q (q ^ (32 - d)) = Q := ⟨_, rfl⟩
 rw [hQ] at HR ⊢
 obtain ⟨Q0, hQ0⟩ : ∃ Q, Rat.divInt 1 (q : Int) = Q := ⟨_, rfl⟩
 rw [hQ0] at HR HR0
 obtain ⟨b4, hb4⟩ : ∃ b, W.heap.size = b := ⟨_, rfl⟩
 have HBE := Lib.hid hb4
 have HB4 := Lib.hid (BC.new W b4 #[.bool false, .string ⟨#[]⟩, .bool false, .string ⟨#[]⟩] 85 hb4.symm)
 have HL := Lib.hid ((Below.refl W.heap.size W).alloc (Nat.le_refl _) (.cells #[.bool false, .string ⟨#[]⟩, .bool false, .string ⟨#[]⟩] 85))
 clear hQ hqb hQ0
 go_enter Tryz.func109, Tryz.ntmps109
 go_wp2_with fail
 refine (HR0.out _).mono ?_
 rintro e w0 ⟨rfl, hb0⟩
 have HL0 := Lib.hid (bstep HL.out hb0)
 have HB40 := Lib.hid (HB4.out.below hb0)
 clear hb0 HL HB4
 go_wp2_with fail
 refine (HR.out _).mono ?_
 rintro e w1 ⟨rfl, hb1⟩
 have hal : Below w1.heap.size w1 (w1.alloc (.cells #[.bool (sgn Q.num), .string (mg Q.num.natAbs), .bool false, .string (mg Q.den)] 85)) := (Below.refl _ _).alloc (Nat.le_refl _) _
 have hst := hb1.trans (hal.mono hb1.size)
 have HL1 := Lib.hid (bstep HL0.out hst)
 have HB41 := Lib.hid (HB40.out.below hst)
 have HP5 := Lib.hid (BC.new w1 w1.heap.size #[.bool (sgn Q.num), .string (mg Q.num.natAbs), .bool false, .string (mg Q.den)] 85 rfl)
 clear hb1 hal hst HL0 HB40
 go_upto_region 2 with fail
 obtain ⟨b5, hb5⟩ : ∃ b, w1.heap.size = b := ⟨_, rfl⟩
 rw [hb5] at HP5 ⊢
 obtain ⟨X, hX⟩ : ∃ X, w1.alloc (.cells #[.bool (sgn Q.num), .string (mg Q.num.natAbs), .bool false, .string (mg Q.den)] 85) = X := ⟨_, rfl⟩
 rw [hX] at HL1 HB41 HP5 ⊢
 clear hX hb5 hb4
 have p0 := HP5.out.at 0 _ rfl
 have p1 := HP5.out.at 1 _ rfl
 have p2 := HP5.out.at 2 _ rfl
 have p3 := HP5.out.at 3 _ rfl
 have y0 := HB41.out.at 0 _ rfl
 have y1 := HB41.out.at 1 _ rfl
 have y2 := HB41.out.at 2 _ rfl
 have y3 := HB41.out.at 3 _ rfl
 have z0 := HB41.out.z 0 (by simp)
 have z1 := HB41.out.z 1 (by simp)
 have z2 := HB41.out.z 2 (by simp)
 have z3 := HB41.out.z 3 (by simp)
 go_wp2_with fail
 have e4 := ((((HB41.out.set 0 (.bool (sgn Q.num)) (by simp)).set 1 (.string (mg Q.num.natAbs)) (by simp)).set 2 (.bool false) (by simp)).set 3 (.string (mg Q.den)) (by simp))
 have f0 := e4.at 0 _ rfl
 have f1 := e4.at 1 _ rfl
 have f2 := e4.at 2 _ rfl
 have f3 := e4.at 3 _ rfl
 refine bodyPost_ret (v := .agg #[.bool (sgn Q.num), .string (mg Q.num.natAbs), .bool false, .string (mg Q.den)]) (by simp [results, Tryz.results109, go_sem, f0, f1, f2, f3]) rfl ?_
 have hbe := HBE.out
 exact ⟨rfl, (((HL1.out.setCell (p := ⟨b4, 0, none⟩) (by show W.heap.size ≤ b4; omega) _).setCell (p := ⟨b4, 1, none⟩) (by show W.heap.size ≤ b4; omega) _).setCell (p := ⟨b4, 2, none⟩) (by show W.heap.size ≤ b4; omega) _).setCell (p := ⟨b4, 3, none⟩) (by show W.heap.size ≤ b4; omega) _⟩
theorem kraft36_any {g c n q : Nat} {ds : List Nat} (h2 : 2 ≤ q) (hq : q ≤ 16) (hn : ds.length = n) (hl : n ≤ 1000) (hd : ∀ d ∈ ds, 1 ≤ d ∧ d ≤ 32) (w : World) (hr : RC w g (natV ds)) :
  Calls Tryz.prog 86 #[.int .i64 (q : Int), .slice (some ⟨g, 0, none⟩) n c] w (RetQE w (rS q (kq q ds).sum) 0) := by
 have HR := Lib.hid hr
 have HD := Lib.hid hd
 have HN := Lib.hid hn
 have HPL := Lib.hid (kq_lt hq ds (by omega))
 have HPX := Lib.hid (pq_lt hq)
 have HRA := Lib.hid (fun W => show Calls Tryz.prog 88 #[.int .i64 0, .int .i64 1] W (RetQ W (rS q 0)) from by
  have h := ratio36_any 0 1 (by omega) (by omega) W
  have e : Rat.divInt 0 1 = rS q 0 := by unfold rS; simp
  rwa [e] at h)
 have HPA := Lib.hid (fun d (hd : d ≤ 32) W => part36_any q d h2 hq hd W)
 have HAD := Lib.hid (fun S T (hS : S < 2 ^ 139) (hT : T < 2 ^ 139) W => show Calls Tryz.prog 108 #[.agg #[.bool (sgn (rS q S).num), .string (mg (rS q S).num.natAbs), .bool false, .string (mg (rS q S).den)], .agg #[.bool (sgn (rS q T).num), .string (mg (rS q T).num.natAbs), .bool false, .string (mg (rS q T).den)]] W (RetQ W (rS q (S + T))) from by
  have h := rrAddQP (Rq.V (rS_qb hq hS) (by decide)) (pDen _) (Rq.V (rS_qb hq hT) (by decide)) (pDen _) W
  rwa [rS_add (by omega)] at h)
 unfold RetQ at HRA HPA HAD
 unfold RetQE
 obtain ⟨R, hR⟩ : ∃ R : Nat → Rat, (fun S => rS q S) = R := ⟨_, rfl⟩
 have hRS : ∀ S, rS q S = R S := fun S => by rw [← hR]
 simp only [hRS] at HRA HPA HAD ⊢
 obtain ⟨Q, hQ⟩ : ∃ x, R (kq q ds).sum = x := ⟨_, rfl⟩
 have HQT := Lib.hid hQ
 rw [hQ]
 clear hR hRS hr hd hn hQ
 have hqA : decide ((q : Int) < 2) = false := by simp; omega
 have hqB : decide ((16 : Int) < (q : Int)) = false := by simp; omega
 have hnB : decide ((4096 : Int) < (n : Int)) = false := by simp; omega
 obtain ⟨b4, hb4⟩ : ∃ b, w.heap.size = b := ⟨_, rfl⟩
 have HBE := Lib.hid hb4
 have HB4 := Lib.hid ((BC.new w b4 #[.bool false, .string ⟨#[]⟩, .bool false, .string ⟨#[]⟩] 85 hb4.symm).alloc (.cells #[.bool false, .string ⟨#[]⟩, .bool false, .string ⟨#[]⟩] 85))
 have HL := Lib.hid (((Below.refl w.heap.size w).alloc (Nat.le_refl _) (.cells #[.bool false, .string ⟨#[]⟩, .bool false, .string ⟨#[]⟩] 85)).alloc (by simp) (.cells #[.bool false, .string ⟨#[]⟩, .bool false, .string ⟨#[]⟩] 85))
 go_enter Tryz.func86, Tryz.ntmps86
 go_upto_region 2 with fail
 obtain ⟨W1, hW1⟩ : ∃ X, (w.alloc (.cells #[.bool false, .string ⟨#[]⟩, .bool false, .string ⟨#[]⟩] 85)).alloc (.cells #[.bool false, .string ⟨#[]⟩, .bool false, .string ⟨#[]⟩] 85) = X := ⟨_, rfl⟩
 rw [hW1] at HB4 HL ⊢
 clear hW1 hb4
 have HRD := Lib.hid (HR.out.below HL.out)
 go_wp2_with fail
 go_loopg [7] (n + 1) (fun gg v7 wr => ∃ i : Nat, v7 = .int .i64 (i : Int) ∧ i ≤ n ∧ n - i < gg ∧ wr = W1)
 case atStart => exact ⟨0, rfl, Nat.zero_le _, by omega, rfl⟩
 case round =>
  obtain ⟨i, rfl, hi, hig, ew⟩ := hrel
  subst ew
  have HG := Lib.hid hig
  clear hig
  by_cases hlt : i < n
  ·have hltI : (i : Int) < n := by omega
   obtain ⟨d, hd⟩ : ∃ d, ds[i]? = some d := ⟨ds[i]'(by rw [HN.out]; exact hlt), List.getElem?_eq_getElem _⟩
   have hd1 := HD.out d (List.mem_of_getElem? hd)
   have c0 := HRD.out.at i _ (natV_is hd)
   have hdA : decide ((d : Int) < 1) = false := by simp; omega
   have hdB : decide ((32 : Int) < (d : Int)) = false := by simp; omega
   clear hd
   go_wp2_with fail
   go_roundg (n - i)
   case rel => exact ⟨i + 1, by go_num, by omega, by omega, rfl⟩
   case measure => have := HG.out; omega
  ·obtain rfl : n = i := by omega
   have hB : decide ((n : Int) < (n : Int)) = false := by simp
   go_wp2_with fail
   refine (HRA.out _).mono ?_
   rintro e w2 ⟨rfl, hb2⟩
   have hal : Below w2.heap.size w2 (w2.alloc (.cells #[.bool (sgn (R 0).num), .string (mg (R 0).num.natAbs), .bool false, .string (mg (R 0).den)] 85)) := (Below.refl _ _).alloc (Nat.le_refl _) _
   have hst := hb2.trans (hal.mono hb2.size)
   have HL2 := Lib.hid (bstep HL.out hst)
   have HB42 := Lib.hid (HB4.out.below hst)
   have HP8 := Lib.hid (BC.new w2 w2.heap.size #[.bool (sgn (R 0).num), .string (mg (R 0).num.natAbs), .bool false, .string (mg (R 0).den)] 85 rfl)
   have HO8 := Lib.hid (show b4 < w2.heap.size from by have h1 := hb2.size; have h2 := HB4.out.lt; omega)
   clear hb2 hal hst HL HB4 HRD
   go_upto_region 12 with fail
   obtain ⟨b8, hb8⟩ : ∃ b, w2.heap.size = b := ⟨_, rfl⟩
   rw [hb8] at HP8 HO8 ⊢
   obtain ⟨X, hX⟩ : ∃ X, w2.alloc (.cells #[.bool (sgn (R 0).num), .string (mg (R 0).num.natAbs), .bool false, .string (mg (R 0).den)] 85) = X := ⟨_, rfl⟩
   rw [hX] at HL2 HB42 HP8 ⊢
   clear hX hb8
   go_wp2_with fail
   go_loopg [9] (n + 1) (fun gg v9 wr => ∃ i : Nat, v9 = .int .i64 (i : Int) ∧ i ≤ n ∧ n - i < gg ∧ BC wr b4 [.bool false, .string ⟨#[]⟩, .bool false, .string ⟨#[]⟩] ∧ BC wr b8 [.bool (sgn (R ((kq q ds).take i).sum).num), .string (mg (R ((kq q ds).take i).sum).num.natAbs), .bool false, .string (mg (R ((kq q ds).take i).sum).den)] ∧ Below w.heap.size w wr)
   case atStart => exact ⟨0, rfl, Nat.zero_le _, by omega, HB42.out, HP8.out, HL2.out⟩
   case round =>
    obtain ⟨i, rfl, hi, hig, h4, h8, hbl⟩ := hrel
    have HG := Lib.hid hig
    have H4 := Lib.hid h4
    have H8 := Lib.hid h8
    have HLr := Lib.hid hbl
    clear hig h4 h8 hbl HL2 HB42 HP8
    by_cases hlt : i < n
    ·have hltI : (i : Int) < n := by omega
     obtain ⟨d, hd⟩ : ∃ d, ds[i]? = some d := ⟨ds[i]'(by rw [HN.out]; exact hlt), List.getElem?_eq_getElem _⟩
     have hd1 := HD.out d (List.mem_of_getElem? hd)
     have c0 := (HR.out.below HLr.out).at i _ (natV_is hd)
     have HSX := Lib.hid (show ((kq q ds).take (i + 1)).sum = ((kq q ds).take i).sum + q ^ (32 - d) from take_sum_succ (kq_at hd))
     have HST := Nat.lt_of_le_of_lt (take_sum_le _ i) HPL.out
     have HPd := Lib.hid (HPA.out d hd1.2)
     have hXd := HPX.out d
     clear hd
     obtain ⟨p, hp⟩ : ∃ p, q ^ (32 - d) = p := ⟨_, rfl⟩
     obtain ⟨S, hS⟩ : ∃ S, ((kq q ds).take i).sum = S := ⟨_, rfl⟩
     rw [hS] at HSX HST H8
     rw [hp] at HSX HPd hXd
     have HAd := Lib.hid (HAD.out S p HST (Nat.lt_of_lt_of_le hXd (by decide)))
     obtain ⟨rs, hrs⟩ : ∃ x, R S = x := ⟨_, rfl⟩
     obtain ⟨rp, hrp⟩ : ∃ x, R p = x := ⟨_, rfl⟩
     rw [hrs] at H8 HAd
     rw [hrp] at HPd HAd
     clear hp hS HST hXd hrs hrp
     go_upto_region 15 with fail
     refine wp_region_front 8 zvQ (by kernel_rfl) shQ (by kernel_rfl) (by kernel_rfl) (zvQ_alloc _ (by kernel_rfl)) (shQ_store _ (by kernel_rfl)) ?_
     intro mm BW hm1 hm2 hBW
     haveI := clm_some mm BW
     have f0 := fun u : Clm mm BW => u.cell hm1 hBW (H8.out.at 0 _ rfl)
     have f1 := fun u : Clm mm BW => u.cell hm1 hBW (H8.out.at 1 _ rfl)
     have f2 := fun u : Clm mm BW => u.cell hm1 hBW (H8.out.at 2 _ rfl)
     have f3 := fun u : Clm mm BW => u.cell hm1 hBW (H8.out.at 3 _ rfl)
     have f4 := fun u : Clm mm BW => u.cell hm1 hBW c0
     simp only [frontOf, unmade, List.take_succ_cons, List.take_zero, List.map_cons, List.map_nil]
     iterate 6 (go_big_quiet_step (fail))
     go_big_quiet_step ((go_at_call 109; exact quiet_clm hm2 HPd.out _))
     go_big_quiet_step ((go_at_call 108; exact quiet_clm hm2 HAd.out _))
     refine wpQuiet_nil ?_
     refine ⟨List.forall_mem_nil _, ?_⟩
     intro γ w9 hB9 hF
     clear hF hBW this hm1 hm2 f0 f1 f2 f3 f4
     clear BW mm
     simp only [madesFrom, Facts, patch, List.take_succ_cons, List.take_zero, List.drop_succ_cons, List.drop_zero]
     clear γ c0
     have H8b := Lib.hid (H8.out.below hB9)
     have H4b := Lib.hid (H4.out.below hB9)
     have HLb := Lib.hid (bstep HLr.out hB9)
     clear hB9 H8 H4 HLr
     have y0 := H8b.out.at 0 _ rfl
     have y1 := H8b.out.at 1 _ rfl
     have y2 := H8b.out.at 2 _ rfl
     have y3 := H8b.out.at 3 _ rfl
     have z0 := H8b.out.z 0 (by simp)
     have z1 := H8b.out.z 1 (by simp)
     have z2 := H8b.out.z 2 (by simp)
     have z3 := H8b.out.z 3 (by simp)
     obtain ⟨rt, hrt⟩ : ∃ x, R (S + p) = x := ⟨_, rfl⟩
     have HRT := Lib.hid hrt
     rw [hrt]
     clear hrt
     go_wp2_with fail
     go_roundg (n - i)
     case rel =>
      have ho := HO8.out
      have hbe := HBE.out
      refine ⟨i + 1, by go_num, by omega, by omega, ?_, ?_, ?_⟩
      ·exact (((H4b.out.other 0 _ (by omega)).other 1 _ (by omega)).other 2 _ (by omega)).other 3 _ (by omega)
      ·rw [HSX.out, HRT.out]
       exact (((H8b.out.set 0 (.bool (sgn rt.num)) (by simp)).set 1 (.string (mg rt.num.natAbs)) (by simp)).set 2 (.bool false) (by simp)).set 3 (.string (mg rt.den)) (by simp)
      ·exact (((HLb.out.setCell (p := ⟨b8, 0, none⟩) (by show w.heap.size ≤ b8; omega) _).setCell (p := ⟨b8, 1, none⟩) (by show w.heap.size ≤ b8; omega) _).setCell (p := ⟨b8, 2, none⟩) (by show w.heap.size ≤ b8; omega) _).setCell (p := ⟨b8, 3, none⟩) (by show w.heap.size ≤ b8; omega) _
     case measure => have := HG.out; omega
    ·obtain rfl : n = i := by omega
     have hB2 : decide ((n : Int) < (n : Int)) = false := by simp
     have hT : ((kq q ds).take n).sum = (kq q ds).sum := by rw [List.take_of_length_le (by unfold kq; rw [List.length_map]; exact Nat.le_of_eq HN.out)]
     rw [hT, HQT.out] at H8
     clear hT
     have p0 := H8.out.at 0 _ rfl
     have p1 := H8.out.at 1 _ rfl
     have p2 := H8.out.at 2 _ rfl
     have p3 := H8.out.at 3 _ rfl
     have y0 := H4.out.at 0 _ rfl
     have y1 := H4.out.at 1 _ rfl
     have y2 := H4.out.at 2 _ rfl
     have y3 := H4.out.at 3 _ rfl
     have z0 := H4.out.z 0 (by simp)
     have z1 := H4.out.z 1 (by simp)
     have z2 := H4.out.z 2 (by simp)
     have z3 := H4.out.z 3 (by simp)
     go_wp2_with fail
     have e4 := ((((H4.out.set 0 (.bool (sgn Q.num)) (by simp)).set 1 (.string (mg Q.num.natAbs)) (by simp)).set 2 (.bool false) (by simp)).set 3 (.string (mg Q.den)) (by simp))
     have f0 := e4.at 0 _ rfl
     have f1 := e4.at 1 _ rfl
     have f2 := e4.at 2 _ rfl
     have f3 := e4.at 3 _ rfl
     refine bodyPost_ret (v := .tuple #[.agg #[.bool (sgn Q.num), .string (mg Q.num.natAbs), .bool false, .string (mg Q.den)], .int .i64 0]) (by simp [results, Tryz.results86, go_sem, f0, f1, f2, f3]) rfl ?_
     have hbe := HBE.out
     exact ⟨rfl, (((HLr.out.setCell (p := ⟨b4, 0, none⟩) (by show w.heap.size ≤ b4; omega) _).setCell (p := ⟨b4, 1, none⟩) (by show w.heap.size ≤ b4; omega) _).setCell (p := ⟨b4, 2, none⟩) (by show w.heap.size ≤ b4; omega) _).setCell (p := ⟨b4, 3, none⟩) (by show w.heap.size ≤ b4; omega) _⟩
theorem fits36_any {g c n q : Nat} {ds : List Nat} (h2 : 2 ≤ q) (hq : q ≤ 16) (hn : ds.length = n) (hl : n ≤ 1000) (hd : ∀ d ∈ ds, 1 ≤ d ∧ d ≤ 32) (hk : (kq q ds).sum ≤ q ^ 32) (w : World) (hr : RC w g (natV ds)) :
  Calls Tryz.prog 59 #[.int .i64 (q : Int), .slice (some ⟨g, 0, none⟩) n c] w fun e w' => e = .returned (.tuple #[.bool true, .int .i64 0]) ∧ Below w.heap.size w w' := by
 have HK := Lib.hid (kraft36_any (c := c) h2 hq hn hl hd w hr)
 have hqb := rS_qb hq (kq_lt hq ds (by omega))
 have hone : Qb 140 (Rat.divInt 1 1) := Qb.div (by decide) (by decide) (by decide)
 have HC := Lib.hid (fun W => rrCmpQP (Rq.V hqb (by decide)) (pDen _) (Rq.V hone (by decide)) (pDen _) W)
 have HO := Lib.hid (fun W => ratio36_any 1 1 (by omega) (by omega) W)
 unfold RetQ at HO
 unfold RetQE at HK
 have hcm : decide (cmpQ (rS q (kq q ds).sum) (Rat.divInt 1 1) ≤ 0) = true := by
  have h := kq_le (S := (kq q ds).sum) (P := q ^ 32) (Nat.pow_pos (by omega)) hk
  have e : Rat.divInt 1 1 = 1 := by decide +kernel
  rw [e]
  have h1 : ¬ 0 < cmpQ (rS q (kq q ds).sum) 1 := of_decide_eq_false h
  exact decide_eq_true (by omega)
 obtain ⟨Qr, hQr⟩ : ∃ x, rS q (kq q ds).sum = x := ⟨_, rfl⟩
 obtain ⟨Q1, hQ1⟩ : ∃ x, Rat.divInt 1 1 = x := ⟨_, rfl⟩
 rw [hQ1] at HO HC hcm
 rw [hQr] at HK HC hcm
 obtain ⟨r, hrr⟩ : ∃ x, cmpQ Qr Q1 = x := ⟨_, rfl⟩
 rw [hrr] at hcm HC
 clear hd hr hn hqb hone hQr hQ1 hrr hk
 go_enter Tryz.func59, Tryz.ntmps59
 go_wp2_with fail
 refine HK.out.mono ?_
 rintro e w1 ⟨rfl, hb1⟩
 have hal : Below w1.heap.size w1 (w1.alloc (.cells #[.bool (sgn Qr.num), .string (mg Qr.num.natAbs), .bool false, .string (mg Qr.den)] 85)) := (Below.refl _ _).alloc (Nat.le_refl _) _
 have HD1 := Lib.hid (hb1.trans (hal.mono hb1.size))
 have HP1 := Lib.hid (BC.new w1 w1.heap.size #[.bool (sgn Qr.num), .string (mg Qr.num.natAbs), .bool false, .string (mg Qr.den)] 85 rfl)
 clear hb1 hal HK
 go_upto_region 4 with fail
 obtain ⟨b6, hb6⟩ : ∃ b, w1.heap.size = b := ⟨_, rfl⟩
 rw [hb6] at HP1 ⊢
 obtain ⟨Y, hY⟩ : ∃ X, w1.alloc (.cells #[.bool (sgn Qr.num), .string (mg Qr.num.natAbs), .bool false, .string (mg Qr.den)] 85) = X := ⟨_, rfl⟩
 rw [hY] at HD1 HP1 ⊢
 clear hY hb6
 haveI := cls_some Y
 have f0 : ∀ u : Cl Y, u.x.cell? ⟨b6, 0, none⟩ = some (.bool (sgn Qr.num)) := fun u => (HP1.out.below u.h).at 0 _ rfl
 have f1 : ∀ u : Cl Y, u.x.cell? ⟨b6, 1, none⟩ = some (.string (mg Qr.num.natAbs)) := fun u => (HP1.out.below u.h).at 1 _ rfl
 have f2 : ∀ u : Cl Y, u.x.cell? ⟨b6, 2, none⟩ = some (.bool false) := fun u => (HP1.out.below u.h).at 2 _ rfl
 have f3 : ∀ u : Cl Y, u.x.cell? ⟨b6, 3, none⟩ = some (.string (mg Qr.den)) := fun u => (HP1.out.below u.h).at 3 _ rfl
 refine wp_region_cls (by kernel_rfl) ?_
 iterate 1 (go_big_quiet_step (fail))
 go_big_quiet_step ((go_at_call 88; exact quiet_cls HO.out _))
 go_big_quiet_step ((go_at_call 87; exact quiet_cls HC.out _))
 iterate 3 (go_big_quiet_step (fail))
 refine wpQuiet_nil ?_
 intro w7 hw7
 obtain ⟨u7, rfl⟩ := hw7
 go_wp2
 refine bodyPost_ret (v := .tuple #[.bool true, .int .i64 0]) (by simp [results, Tryz.results59, go_sem]) rfl ?_
 exact ⟨rfl, bstep HD1.out u7.h⟩
end Go.Proofs.Gv
