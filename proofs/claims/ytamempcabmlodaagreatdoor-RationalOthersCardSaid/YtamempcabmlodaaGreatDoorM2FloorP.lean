import Derived.Test.YtamempcabmlodaaGreatDoorRatJ3P
set_option maxHeartbeats 4000000
set_option maxRecDepth 100000
set_option linter.unusedSimpArgs false
set_option linter.unusedVariables false
namespace Go.Proofs.Gv
open Go Go.RowKit
theorem awake_w {np mp nq mq nr mr nu mu nv mv nz mz nh mh nf : Bool} {sp tp sq tq sr tr su tu sv tv sz tz sh th sf : ByteArray} (w : World)
  (H1 : GivesV 38 #[.int .i64 1, .int .i64 3] (.agg #[.bool np, .string sp, .bool mp, .string tp]))
  (H2 : GivesV 38 #[.int .i64 2, .int .i64 5] (.agg #[.bool nq, .string sq, .bool mq, .string tq]))
  (H3 : GivesV 31 #[.agg #[.bool np, .string sp, .bool mp, .string tp], .agg #[.bool nq, .string sq, .bool mq, .string tq]] (.tuple #[.agg #[.bool np, .string sp, .bool mp, .string tp], .int .i64 0]))
  (H4 : GivesV 38 #[.int .i64 3, .int .i64 10] (.agg #[.bool nr, .string sr, .bool mr, .string tr]))
  (H5 : GivesV 31 #[.agg #[.bool nr, .string sr, .bool mr, .string tr], .agg #[.bool nq, .string sq, .bool mq, .string tq]] (.tuple #[.agg #[.bool np, .string sp, .bool mp, .string tp], .int .i64 0]))
  (H6 : GivesV 38 #[.int .i64 (-1), .int .i64 2] (.agg #[.bool nu, .string su, .bool mu, .string tu]))
  (H7 : GivesV 38 #[.int .i64 5, .int .i64 1] (.agg #[.bool nv, .string sv, .bool mv, .string tv]))
  (H8 : GivesV 31 #[.agg #[.bool nu, .string su, .bool mu, .string tu], .agg #[.bool nv, .string sv, .bool mv, .string tv]] (.tuple #[.agg #[.bool nz, .string sz, .bool mz, .string tz], .int .i64 0]))
  (H9 : GivesV 33 #[.string ⟨#[45, 51, 47, 50]⟩] (.tuple #[.agg #[.bool nh, .string sh, .bool mh, .string th], .int .i64 0]))
  (H10 : GivesV 33 #[.string ⟨#[54, 47, 52]⟩] (.tuple #[.agg #[.bool false, .string ⟨#[]⟩, .bool false, .string ⟨#[]⟩], .int .i64 3]))
  (H11 : GivesV 38 #[.int .i64 0, .int .i64 1] (.agg #[.bool nz, .string sz, .bool mz, .string tz]))
  (H12 : GivesV 38 #[.int .i64 6, .int .i64 (-4)] (.agg #[.bool nh, .string sh, .bool mh, .string th]))
  (H13 : GivesV 27 #[.agg #[.bool nh, .string sh, .bool mh, .string th]] (.agg #[.bool nf, .string sf]))
  (H14 : GivesV 39 #[.int .i64 (-2)] (.agg #[.bool nf, .string sf]))
  (H15 : GivesV 35 #[.agg #[.bool nh, .string sh, .bool mh, .string th]] (.string ⟨#[45, 51, 47, 50]⟩))
  (H16 : GivesV 13 #[.agg #[.bool nh, .string sh, .bool mh, .string th]] (.int .i64 0))
  (H17 : GivesV 13 #[.agg #[.bool false, .string ⟨#[]⟩, .bool false, .string ⟨#[]⟩]] (.int .i64 1))
  : Calls Tryz.prog 6 #[] w fun e w' => e = .returned (.bool true) ∧ Below w.heap.size w w' := by
 replace H1 := Lib.hid H1
 replace H2 := Lib.hid H2
 replace H3 := Lib.hid H3
 replace H4 := Lib.hid H4
 replace H5 := Lib.hid H5
 replace H6 := Lib.hid H6
 replace H7 := Lib.hid H7
 replace H8 := Lib.hid H8
 replace H9 := Lib.hid H9
 replace H10 := Lib.hid H10
 replace H11 := Lib.hid H11
 replace H12 := Lib.hid H12
 replace H13 := Lib.hid H13
 replace H14 := Lib.hid H14
 replace H15 := Lib.hid H15
 replace H16 := Lib.hid H16
 replace H17 := Lib.hid H17
 have qp : eqQ np sp mp tp np sp mp tp = true := eqQ_iff.2 ⟨⟨rfl, rfl⟩, ⟨rfl, rfl⟩⟩
 have qz : eqQ nz sz mz tz nz sz mz tz = true := eqQ_iff.2 ⟨⟨rfl, rfl⟩, ⟨rfl, rfl⟩⟩
 have qh : eqQ nh sh mh th nh sh mh th = true := eqQ_iff.2 ⟨⟨rfl, rfl⟩, ⟨rfl, rfl⟩⟩
 have qf : eqI nf sf nf sf = true := eqI_iff.2 ⟨rfl, rfl⟩
 go_enter Tryz.func6, Tryz.ntmps6
 have HL0 := Lib.hid (Below.refl w.heap.size w)
 have HB0 := Lib.hid (show Bs [] w from trivial)
 go_wp2_with fail
 refine (H1.out _).mono ?_
 rintro e w1 ⟨rfl, hb⟩
 obtain ⟨HL1, HB1⟩ := cameLB HL0 HB0 hb
 clear hb
 clear HL0 HB0
 go_wp2_with fail
 refine (H2.out _).mono ?_
 rintro e w2 ⟨rfl, hb⟩
 obtain ⟨HL2, HB2⟩ := cameLB HL1 HB1 hb
 clear hb
 clear HL1 HB1
 go_wp2_with fail
 refine (H3.out _).mono ?_
 rintro e w3 ⟨rfl, hb⟩
 obtain ⟨HL3, HB3⟩ := cameLB HL2 HB2 hb
 clear hb
 clear HL2 HB2
 have HO0 := Lib.hid (show w.heap.size ≤ w3.heap.size from by have := HL3.out.size; first | omega | (simp at this; omega))
 obtain ⟨HL4, HB4⟩ := growLB HL3 HB3 (w3.heap.size) #[.bool np, .string sp, .bool mp, .string tp] 25
 clear HL3 HB3
 go_wp2_with fail
 refine (H4.out _).mono ?_
 rintro e w4 ⟨rfl, hb⟩
 obtain ⟨HL5, HB5⟩ := cameLB HL4 HB4 hb
 clear hb
 clear HL4 HB4
 go_wp2_with fail
 refine (H2.out _).mono ?_
 rintro e w5 ⟨rfl, hb⟩
 obtain ⟨HL6, HB6⟩ := cameLB HL5 HB5 hb
 clear hb
 clear HL5 HB5
 go_wp2_with fail
 refine (H5.out _).mono ?_
 rintro e w6 ⟨rfl, hb⟩
 obtain ⟨HL7, HB7⟩ := cameLB HL6 HB6 hb
 clear hb
 clear HL6 HB6
 have HO1 := Lib.hid (show w3.heap.size < w6.heap.size from by have := (HB7.out.1).lt; first | omega | (simp at this; omega))
 obtain ⟨HL8, HB8⟩ := growLB HL7 HB7 (w6.heap.size) #[.bool np, .string sp, .bool mp, .string tp] 25
 clear HL7 HB7
 go_wp2_with fail
 refine (H6.out _).mono ?_
 rintro e w7 ⟨rfl, hb⟩
 obtain ⟨HL9, HB9⟩ := cameLB HL8 HB8 hb
 clear hb
 clear HL8 HB8
 go_wp2_with fail
 refine (H7.out _).mono ?_
 rintro e w8 ⟨rfl, hb⟩
 obtain ⟨HL10, HB10⟩ := cameLB HL9 HB9 hb
 clear hb
 clear HL9 HB9
 go_wp2_with fail
 refine (H8.out _).mono ?_
 rintro e w9 ⟨rfl, hb⟩
 obtain ⟨HL11, HB11⟩ := cameLB HL10 HB10 hb
 clear hb
 clear HL10 HB10
 have HO2 := Lib.hid (show w6.heap.size < w9.heap.size from by have := (HB11.out.1).lt; first | omega | (simp at this; omega))
 obtain ⟨HL12, HB12⟩ := growLB HL11 HB11 (w9.heap.size) #[.bool nz, .string sz, .bool mz, .string tz] 25
 clear HL11 HB11
 go_wp2_with fail
 refine (H9.out _).mono ?_
 rintro e w10 ⟨rfl, hb⟩
 obtain ⟨HL13, HB13⟩ := cameLB HL12 HB12 hb
 clear hb
 clear HL12 HB12
 have HO3 := Lib.hid (show w9.heap.size < w10.heap.size from by have := (HB13.out.1).lt; first | omega | (simp at this; omega))
 obtain ⟨HL14, HB14⟩ := growLB HL13 HB13 (w10.heap.size) #[.bool nh, .string sh, .bool mh, .string th] 25
 clear HL13 HB13
 go_wp2_with fail
 refine (H10.out _).mono ?_
 rintro e w11 ⟨rfl, hb⟩
 obtain ⟨HL15, HB15⟩ := cameLB HL14 HB14 hb
 clear hb
 clear HL14 HB14
 have HO4 := Lib.hid (show w10.heap.size < w11.heap.size from by have := (HB15.out.1).lt; first | omega | (simp at this; omega))
 obtain ⟨HL16, HB16⟩ := growLB HL15 HB15 (w11.heap.size) #[.bool false, .string ⟨#[]⟩, .bool false, .string ⟨#[]⟩] 25
 clear HL15 HB15
 go_wp2_with fail
 obtain ⟨Bw3, hB⟩ : ∃ B, w3.heap.size = B := ⟨_, rfl⟩
 rw [hB] at HB16 ⊢
 try rw [hB] at HO0
 try rw [hB] at HO1
 try rw [hB] at HO2
 try rw [hB] at HO3
 try rw [hB] at HO4
 clear hB
 obtain ⟨Bw6, hB⟩ : ∃ B, w6.heap.size = B := ⟨_, rfl⟩
 rw [hB] at HB16 ⊢
 try rw [hB] at HO0
 try rw [hB] at HO1
 try rw [hB] at HO2
 try rw [hB] at HO3
 try rw [hB] at HO4
 clear hB
 obtain ⟨Bw9, hB⟩ : ∃ B, w9.heap.size = B := ⟨_, rfl⟩
 rw [hB] at HB16 ⊢
 try rw [hB] at HO0
 try rw [hB] at HO1
 try rw [hB] at HO2
 try rw [hB] at HO3
 try rw [hB] at HO4
 clear hB
 obtain ⟨Bw10, hB⟩ : ∃ B, w10.heap.size = B := ⟨_, rfl⟩
 rw [hB] at HB16 ⊢
 try rw [hB] at HO0
 try rw [hB] at HO1
 try rw [hB] at HO2
 try rw [hB] at HO3
 try rw [hB] at HO4
 clear hB
 obtain ⟨Bw11, hB⟩ : ∃ B, w11.heap.size = B := ⟨_, rfl⟩
 rw [hB] at HB16 ⊢
 try rw [hB] at HO0
 try rw [hB] at HO1
 try rw [hB] at HO2
 try rw [hB] at HO3
 try rw [hB] at HO4
 clear hB
 obtain ⟨W12, hW⟩ : ∃ W, (w11.alloc (.cells #[.bool false, .string ⟨#[]⟩, .bool false, .string ⟨#[]⟩] 25)) = W := ⟨_, rfl⟩
 rw [hW] at HB16 HL16 ⊢
 clear hW
 haveI := cls_some W12
 obtain ⟨fq0_0, fq0_1, fq0_2, fq0_3⟩ := BC.all4 fun u : Cl W12 => ((HB16.out.bel u.h).2.2.2.2.1)
 obtain ⟨fq1_0, fq1_1, fq1_2, fq1_3⟩ := BC.all4 fun u : Cl W12 => ((HB16.out.bel u.h).2.2.2.1)
 obtain ⟨fq2_0, fq2_1, fq2_2, fq2_3⟩ := BC.all4 fun u : Cl W12 => ((HB16.out.bel u.h).2.2.1)
 obtain ⟨fq3_0, fq3_1, fq3_2, fq3_3⟩ := BC.all4 fun u : Cl W12 => ((HB16.out.bel u.h).2.1)
 refine wp_region_cls (by kernel_rfl) ?_
 iterate 20 (go_big_quiet_step (fail))
 go_big_quiet_step ((go_at_call 38; exact quiet_cls H1.out _))
 iterate 9 (go_big_quiet_step (fail))
 go_big_quiet_step ((go_at_call 38; exact quiet_cls H11.out _))
 iterate 4 (go_big_quiet_step (fail))
 go_big_quiet_step ((go_at_call 38; exact quiet_cls H12.out _))
 iterate 4 (go_big_quiet_step (fail))
 go_big_quiet_step ((go_at_call 27; exact quiet_cls H13.out _))
 go_big_quiet_step ((go_at_call 39; exact quiet_cls H14.out _))
 iterate 4 (go_big_quiet_step (fail))
 go_big_quiet_step ((go_at_call 35; exact quiet_cls H15.out _))
 iterate 4 (go_big_quiet_step (fail))
 go_big_quiet_step ((go_at_call 13; exact quiet_cls H16.out _))
 iterate 4 (go_big_quiet_step (fail))
 go_big_quiet_step ((go_at_call 13; exact quiet_cls H17.out _))
 iterate 3 (go_big_quiet_step (fail))
 refine wpQuiet_nil ?_
 intro w13 hw9
 have hb : Below W12.heap.size W12 w13 := by obtain ⟨u, rfl⟩ := hw9; exact u.h
 clear hw9 this fq0_0 fq0_1 fq0_2 fq0_3 fq1_0 fq1_1 fq1_2 fq1_3 fq2_0 fq2_1 fq2_2 fq2_3 fq3_0 fq3_1 fq3_2 fq3_3
 obtain ⟨HL17, HB17⟩ := cameLB HL16 HB16 hb
 clear hb
 clear HL16 HB16
 go_wp2
 go_ret
 exact ⟨rfl, HL17.out⟩
theorem ratP_ex1 : ratP [45, 51, 47, 50] = some (Rat.divInt (-3) 2) := by decide +kernel
theorem ratP_ex2 : ratP [54, 47, 52] = none := by decide +kernel
theorem q10 : Qb 10 (Rat.divInt 1 3) ∧ Qb 10 (Rat.divInt 2 5) ∧ Qb 10 (Rat.divInt 3 10) ∧ Qb 10 (Rat.divInt (-1) 2) ∧ Qb 10 (Rat.divInt 5 1) ∧ Qb 10 (Rat.divInt (-3) 2) :=
 ⟨⟨by decide +kernel, by decide +kernel⟩, ⟨by decide +kernel, by decide +kernel⟩, ⟨by decide +kernel, by decide +kernel⟩, ⟨by decide +kernel, by decide +kernel⟩, ⟨by decide +kernel, by decide +kernel⟩, ⟨by decide +kernel, by decide +kernel⟩⟩
theorem cAwake02 (W : World) : Calls Tryz.prog 6 #[] W fun e w' => e = .returned (.bool true) ∧ Below W.heap.size W w' := by
 obtain ⟨Q1, Q2, Q3, Q4, Q5, Q6⟩ := q10
 have r1 := cRatio (x := 1) (y := 3) (by decide) (by decide) (by decide) (by decide) (by decide)
 have r2 := cRatio (x := 2) (y := 5) (by decide) (by decide) (by decide) (by decide) (by decide)
 have r3 := cRatio (x := 3) (y := 10) (by decide) (by decide) (by decide) (by decide) (by decide)
 have r4 := cRatio (x := -1) (y := 2) (by decide) (by decide) (by decide) (by decide) (by decide)
 have r5 := cRatio (x := 5) (y := 1) (by decide) (by decide) (by decide) (by decide) (by decide)
 have r6 := cRatio (x := 0) (y := 1) (by decide) (by decide) (by decide) (by decide) (by decide)
 have r7 := cRatio (x := 6) (y := -4) (by decide) (by decide) (by decide) (by decide) (by decide)
 rw [Rat.zero_divInt] at r6
 rw [rat_aw4] at r7
 have s1 := fun W => cQSim (Q1.rq (by decide)) (Q2.rq (by decide)) Q1 Q2 (by decide) (by decide +kernel) W
 have s2 := fun W => cQSim (Q3.rq (by decide)) (Q2.rq (by decide)) Q3 Q2 (by decide) (by decide +kernel) W
 have s3 := fun W => cQSim (Q4.rq (by decide)) (Q5.rq (by decide)) Q4 Q5 (by decide) (by decide +kernel) W
 rw [rat_aw1] at s1
 rw [rat_aw2] at s2
 rw [rat_aw3] at s3
 have p1 := fun W => cQParse (s := ⟨#[45, 51, 47, 50]⟩) (by decide) W
 have p2 := fun W => cQParse (s := ⟨#[54, 47, 52]⟩) (by decide) W
 rw [show (⟨#[45, 51, 47, 50]⟩ : ByteArray).data.toList = [45, 51, 47, 50] from rfl, ratP_ex1] at p1
 rw [show (⟨#[54, 47, 52]⟩ : ByteArray).data.toList = [54, 47, 52] from rfl, ratP_ex2] at p2
 have f1 := fun W => cQFloor (Q6.rq (by decide)) W
 rw [rat_aw5] at f1
 have o1 := cOf (-2) (by decide) (by decide)
 have t1 := fun W => cQPrint (Q6.rq (by decide)) W
 rw [ratT_P ratP_ex1] at t1
 have c1 := cQCheckV Q6 (by decide)
 have c2 := fun W => cQCheck (na := false) (ma := false) (sa := ⟨#[]⟩) (ta := ⟨#[]⟩) (a := 0) ⟨by rw [show iv false ⟨#[]⟩ = 0 from Rp.zero.val, Rat.divInt_zero], by decide, by decide⟩ W
 have hne : ¬ eqQ (sgn (0 : Rat).num) (mg (0 : Rat).num.natAbs) false (mg (0 : Rat).den) false ⟨#[]⟩ false ⟨#[]⟩ = true := fun h => by
  have h2 := (eqQ_iff.1 h).2.2
  have h3 := congrArg ByteArray.size h2
  exact absurd h3 (by decide +kernel)
 rw [if_neg hne] at c2
 exact awake_w W r1 r2 s1 r3 s2 r4 r5 s3 p1 p2 r6 r7 f1 o1 t1 c1 c2
theorem greatInt (na : Bool) (sa : ByteArray) (w : World) (h : sa.size ≤ maxLen) :
  Calls Tryz.prog 37 #[.agg #[.bool na, .string sa]] w fun e w' => e = .returned (.bool (decide (24 < sa.size))) ∧ Below w.heap.size w w' := by
 unfold maxLen at h
 by_cases hc : 24 < sa.size
 ·have hI : (24 : Int) < sa.size := by omega
  rw [decide_eq_true hc]
  go_enter Tryz.func37, Tryz.ntmps37
  go_wp2
  go_ret
  exact ⟨rfl, (Below.refl _ _).alloc (Nat.le_refl _) _⟩
 ·have hI : decide ((24 : Int) < sa.size) = false := by simp; omega
  have hI2 : decide (24 < sa.size) = false := by simp; omega
  rw [hI2]
  clear hc
  go_enter Tryz.func37, Tryz.ntmps37
  go_wp2
  go_ret
  exact ⟨rfl, (Below.refl _ _).alloc (Nat.le_refl _) _⟩
def grQ (k : Nat) (L : List (Bool × ByteArray × Bool × ByteArray)) : Bool := L.any fun x => decide (k < x.2.1.size) || decide (k < x.2.2.2.size)
def cellsQ (L : List (Bool × ByteArray × Bool × ByteArray)) : List Value := L.flatMap fun x => [.bool x.1, .string x.2.1, .bool x.2.2.1, .string x.2.2.2]
theorem greatQ_any (g : Nat) (L : List (Bool × ByteArray × Bool × ByteArray)) (w : World) (hL : L.length ≤ 1000) (hz : ∀ x ∈ L, x.2.1.size ≤ maxLen ∧ x.2.2.2.size ≤ maxLen) (hg : g < w.heap.size)
  (hc : ∀ i n s m t, L[i]? = some (n, s, m, t) → (w.cell? ⟨g, i * 4, none⟩ = some (.bool n) ∧ w.cell? ⟨g, i * 4 + 1, none⟩ = some (.string s)) ∧ w.cell? ⟨g, i * 4 + 2, none⟩ = some (.bool m) ∧ w.cell? ⟨g, i * 4 + 3, none⟩ = some (.string t)) :
  Calls Tryz.prog 5 #[.slice (some ⟨g, 0, none⟩) L.length L.length] w fun e w' => e = .returned (.bool (grQ 24 L)) ∧ Below w.heap.size w w' := by
 have HZ := Lib.hid hz
 have HC := Lib.hid hc
 clear hz hc
 go_enter Tryz.func5, Tryz.ntmps5
 go_wp2_with fail
 go_loopg [3] (L.length + 1) (fun gg v3 wr => ∃ (k : Nat), v3 = .int .i64 k ∧ k ≤ L.length ∧ L.length + 1 - k ≤ gg ∧ grQ 24 L = grQ 24 (L.drop k) ∧ Below w.heap.size w wr)
 case atStart => exact ⟨0, rfl, by omega, by omega, rfl, Below.refl _ _⟩
 case round =>
  obtain ⟨k, rfl, hk, hm, hgr, hb⟩ := hrel
  have HG := Lib.hid hgr
  have HB := Lib.hid hb
  clear hgr hb
  by_cases hkl : k < L.length
  ·have hkI : (k : Int) < L.length := by omega
   obtain ⟨⟨n, s, m, t⟩, hx⟩ : ∃ x, L[k]? = some x := ⟨L[k], List.getElem?_eq_getElem hkl⟩
   have hs := HZ.out _ (List.mem_of_getElem? hx)
   obtain ⟨⟨c0, c1⟩, c2, c3⟩ := HC.out k n s m t hx
   have d0 := (HB.out.cell (p := ⟨g, k * 4, none⟩) hg).trans c0
   have d1 := (HB.out.cell (p := ⟨g, k * 4 + 1, none⟩) hg).trans c1
   have hdrop : grQ 24 (L.drop k) = ((decide (24 < s.size) || decide (24 < t.size)) || grQ 24 (L.drop (k + 1))) := by
    obtain ⟨hj, e⟩ := List.getElem?_eq_some_iff.1 hx
    rw [List.drop_eq_getElem_cons hj, e]
    rfl
   have HD := Lib.hid hdrop
   clear c0 c1 hx hdrop
   have HS := Lib.hid hs
   have HC2 := Lib.hid c2
   have HC3 := Lib.hid c3
   clear hs c2 c3
   by_cases hc : 24 < s.size
   ·have HR := Lib.hid (show grQ 24 L = true by rw [HG.out, HD.out, decide_eq_true hc]; rfl)
    have hcd := decide_eq_true hc
    clear hc
    go_wp2_with (go_at_call 37; refine (greatInt n s _ HS.out.1).mono ?_; rintro e w1 ⟨rfl, hb1⟩)
    go_ret
    exact ⟨by rw [HR.out]; rfl, bstep HB.out hb1⟩
   ·have hcd : decide (24 < s.size) = false := by simp; omega
    clear hc
    by_cases hc2 : 24 < t.size
    ·have HR := Lib.hid (show grQ 24 L = true by rw [HG.out, HD.out, hcd, decide_eq_true hc2]; rfl)
     have hcd2 := decide_eq_true hc2
     clear hc2
     go_wp2_with fail
     refine (greatInt n s _ HS.out.1).mono ?_
     rintro e w1 ⟨rfl, hb1⟩
     have HB1 := Lib.hid (bstep HB.out hb1)
     have d2 := (HB1.out.cell (p := ⟨g, k * 4 + 2, none⟩) hg).trans HC2.out
     have d3 := (HB1.out.cell (p := ⟨g, k * 4 + 3, none⟩) hg).trans HC3.out
     clear hb1 d0 d1
     go_wp2_with fail
     refine (greatInt m t _ HS.out.2).mono ?_
     rintro e w2 ⟨rfl, hb2⟩
     go_wp2
     go_ret
     exact ⟨by rw [HR.out]; rfl, bstep HB1.out hb2⟩
    ·have hcd2 : decide (24 < t.size) = false := by simp; omega
     have HR := Lib.hid (show grQ 24 L = grQ 24 (L.drop (k + 1)) by rw [HG.out, HD.out, hcd, hcd2]; rfl)
     clear hc2
     go_wp2_with fail
     refine (greatInt n s _ HS.out.1).mono ?_
     rintro e w1 ⟨rfl, hb1⟩
     have HB1 := Lib.hid (bstep HB.out hb1)
     have d2 := (HB1.out.cell (p := ⟨g, k * 4 + 2, none⟩) hg).trans HC2.out
     have d3 := (HB1.out.cell (p := ⟨g, k * 4 + 3, none⟩) hg).trans HC3.out
     clear hb1 d0 d1
     go_wp2_with fail
     refine (greatInt m t _ HS.out.2).mono ?_
     rintro e w2 ⟨rfl, hb2⟩
     go_wp2
     go_roundg (L.length - k)
     case rel => exact ⟨k + 1, by go_num, by omega, by omega, HR.out, bstep HB1.out hb2⟩
     case measure => omega
  ·have hkB : decide ((k : Int) < L.length) = false := by simp; omega
   have hkB2 : decide (k < L.length) = false := by simp; omega
   have HR := Lib.hid (show grQ 24 L = false by rw [HG.out, List.drop_eq_nil_of_le (by omega)]; rfl)
   clear hkl
   go_wp2
   go_ret
   exact ⟨by rw [HR.out]; rfl, HB.out⟩
theorem cellsQ_at : ∀ (L : List (Bool × ByteArray × Bool × ByteArray)) (i n s m t), L[i]? = some (n, s, m, t) → ((cellsQ L)[i * 4]? = some (.bool n) ∧ (cellsQ L)[i * 4 + 1]? = some (.string s)) ∧ (cellsQ L)[i * 4 + 2]? = some (.bool m) ∧ (cellsQ L)[i * 4 + 3]? = some (.string t)
 | [], i, n, s, m, t, h => by simp at h
 | x :: L, 0, n, s, m, t, h => by
   obtain rfl : x = (n, s, m, t) := by simpa using h
   exact ⟨⟨rfl, rfl⟩, rfl, rfl⟩
 | x :: L, i + 1, n, s, m, t, h => by
   have := cellsQ_at L i n s m t (by simpa using h)
   rw [show (i + 1) * 4 = i * 4 + 4 by omega]
   simp only [cellsQ, List.flatMap_cons] at this ⊢
   exact this
theorem greatQ_box {g : Nat} (L : List (Bool × ByteArray × Bool × ByteArray)) {w : World} (h : BC w g (cellsQ L)) (hL : L.length ≤ 1000) (hz : ∀ x ∈ L, x.2.1.size ≤ maxLen ∧ x.2.2.2.size ≤ maxLen) :
  Calls Tryz.prog 5 #[.slice (some ⟨g, 0, none⟩) L.length L.length] w fun e w' => e = .returned (.bool (grQ 24 L)) ∧ Below w.heap.size w w' :=
 greatQ_any g L w hL hz h.lt fun i n s m t hi => by
  obtain ⟨⟨h0, h1⟩, h2, h3⟩ := cellsQ_at L i n s m t hi
  exact ⟨⟨h.cell _ _ h0, h.cell _ _ h1⟩, h.cell _ _ h2, h.cell _ _ h3⟩
theorem grQ_false {k : Nat} {L : List (Bool × ByteArray × Bool × ByteArray)} (h : grQ k L = false) : ∀ x ∈ L, x.2.1.size ≤ k ∧ x.2.2.2.size ≤ k := by
 intro x hx
 unfold grQ at h
 rw [List.any_eq_false] at h
 have := h x hx
 simp at this
 omega
theorem rq_small {n m : Bool} {s t : ByteArray} (k : Nat) (hk : k ≤ 1000) (h1 : s.size ≤ k) (h2 : t.size ≤ k) : ∃ a N, Rq n s m t a ∧ Qb N a ∧ N ≤ 8 * k + 8 := by
 have h : Rq n s m t (Rat.divInt (iv n s) (iv m t)) := ⟨rfl, by omega, by omega⟩
 exact ⟨_, 8 * (k + 1), h, h.qb (by omega) (by omega) (by omega), by omega⟩
end Go.Proofs.Gv
