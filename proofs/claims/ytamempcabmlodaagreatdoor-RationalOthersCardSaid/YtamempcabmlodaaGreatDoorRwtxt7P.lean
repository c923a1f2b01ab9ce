import Derived.Test.YtamempcabmlodaaGreatDoorRwlow2P
set_option maxHeartbeats 4000000
set_option maxRecDepth 100000
set_option linter.unusedSimpArgs false
set_option linter.unusedVariables false
namespace Go.Proofs.Gv
open Go Go.RowKit
variable {na ma nc nr mr : Bool} {sa ta sc sA sB sr tr : ByteArray}
theorem ratPrint_frac (mc no : Bool) (tc so : ByteArray) (hq : eqI mc tc no so = false) (sx sy : ByteArray) (h1 : sx.size ≤ 1000000) (h2 : sy.size ≤ 1000000) (w : World)
  (H1 : GivesV 45 #[.agg #[.bool na, .string sa, .bool ma, .string ta]] (.agg #[.bool nc, .string sc, .bool mc, .string tc]))
  (H2 : GivesV 39 #[.int .i64 1] (.agg #[.bool no, .string so]))
  (H3 : GivesV 64 #[.agg #[.bool nc, .string sc]] (.string sx))
  (H4 : GivesV 64 #[.agg #[.bool mc, .string tc]] (.string sy))
  : Calls Tryz.prog 35 #[.agg #[.bool na, .string sa, .bool ma, .string ta]] w fun e w' => e = .returned (.string (sx ++ ⟨#[47]⟩ ++ sy)) ∧ Below w.heap.size w w' := by
 replace H1 := Lib.hid H1
 replace H2 := Lib.hid H2
 replace H3 := Lib.hid H3
 replace H4 := Lib.hid H4
 go_enter Tryz.func35, Tryz.ntmps35
 have HL0 := Lib.hid (Below.refl w.heap.size w)
 have HB0 := Lib.hid (show Bs [] w from trivial)
 have HO0 := Lib.hid (show w.heap.size ≤ w.heap.size from by have := HL0.out.size; first | omega | (simp at this; omega))
 obtain ⟨HL1, HB1⟩ := growLB HL0 HB0 (w.heap.size) #[.bool na, .string sa, .bool ma, .string ta] 25
 clear HL0 HB0
 obtain ⟨fx0_0_1, fx0_1_1, fx0_2_1, fx0_3_1⟩ := (HB1.out.1).at4
 go_wp2_with fail
 refine (H1.out _).mono ?_
 rintro e w1 ⟨rfl, hb⟩
 obtain ⟨HL2, HB2⟩ := cameLB HL1 HB1 hb
 clear hb
 clear HL1 HB1 fx0_0_1 fx0_1_1 fx0_2_1 fx0_3_1
 obtain ⟨fx0_0_2, fx0_1_2, fx0_2_2, fx0_3_2⟩ := (HB2.out.1).at4
 obtain ⟨fz0_0_2, fz0_1_2, fz0_2_2, fz0_3_2⟩ := (HB2.out.1).z4
 obtain ⟨HL3, HB3⟩ := keptLB (c := w.heap.size) [.bool nc, .string sc, .bool mc, .string tc] 0 0 HL2 HB2 (by have := HO0.out; omega) (by simp only [Bs.ap, Bs.ap0, List.length_cons, List.length_nil, and_true, true_and]; have := HO0.out; omega)
 simp only [setCs, setL, Bs.put, List.set_cons_succ, List.set_cons_zero, Nat.zero_add, Nat.reduceAdd] at HL3 HB3
 replace HL3 := Lib.hid HL3
 replace HB3 := Lib.hid HB3
 clear HL2 HB2
 go_wp2_with fail
 obtain ⟨W2, hW⟩ : ∃ W, ((((w1.setCell ⟨w.heap.size, 0, none⟩ (.bool nc)).setCell ⟨w.heap.size, 1, none⟩ (.string sc)).setCell ⟨w.heap.size, 2, none⟩ (.bool mc)).setCell ⟨w.heap.size, 3, none⟩ (.string tc)) = W := ⟨_, rfl⟩
 rw [hW] at HB3 HL3 ⊢
 clear hW fx0_0_2 fz0_0_2 fx0_1_2 fz0_1_2 fx0_2_2 fz0_2_2 fx0_3_2 fz0_3_2
 haveI := cls_some W2
 have fq0_2 : ∀ u : Cl W2, u.x.cell? ⟨w.heap.size, 2, none⟩ = some (.bool mc) := fun u => ((HB3.out.bel u.h).1).at 2 (.bool mc) rfl
 have fq0_3 : ∀ u : Cl W2, u.x.cell? ⟨w.heap.size, 3, none⟩ = some (.string tc) := fun u => ((HB3.out.bel u.h).1).at 3 (.string tc) rfl
 refine wp_region_cls (by kernel_rfl) ?_
 iterate 2 (go_big_quiet_step (fail))
 go_big_quiet_step ((go_at_call 39; exact quiet_cls H2.out _))
 iterate 1 (go_big_quiet_step (fail))
 refine wpQuiet_nil ?_
 intro w3 hw9
 have hb : Below W2.heap.size W2 w3 := by obtain ⟨u, rfl⟩ := hw9; exact u.h
 clear hw9 this fq0_2 fq0_3
 obtain ⟨HL4, HB4⟩ := cameLB HL3 HB3 hb
 clear hb
 clear HL3 HB3
 go_wp2_with fail
 haveI := cls_some w3
 obtain ⟨fq0_0, fq0_1, fq0_2, fq0_3⟩ := BC.all4 fun u : Cl w3 => ((HB4.out.bel u.h).1)
 refine wp_region_cls (by kernel_rfl) ?_
 iterate 2 (go_big_quiet_step (fail))
 go_big_quiet_step ((go_at_call 64; exact quiet_cls H3.out _))
 iterate 3 (go_big_quiet_step (fail))
 go_big_quiet_step ((go_at_call 64; exact quiet_cls H4.out _))
 iterate 2 (go_big_quiet_step (fail))
 refine wpQuiet_nil ?_
 intro w4 hw9
 have hb : Below w3.heap.size w3 w4 := by obtain ⟨u, rfl⟩ := hw9; exact u.h
 clear hw9 this fq0_0 fq0_1 fq0_2 fq0_3
 obtain ⟨HL5, HB5⟩ := cameLB HL4 HB4 hb
 clear hb
 clear HL4 HB4
 go_wp2
 go_ret
 exact ⟨rfl, HL5.out⟩
theorem ratParse_bad1_f {sA sB : ByteArray} (s0 : ByteArray) (hl : decide ((65536 : Int) < s0.size) = false) (w : World)
  (H1 : GivesV 61 #[.string s0, .string ⟨#[47]⟩] (.tuple #[.string sA, .string sB, .bool true]))
  (H2 : GivesV 62 #[.string sA] (.tuple #[.agg #[.bool false, .string ⟨#[]⟩], .int .i64 3]))
  : Calls Tryz.prog 33 #[.string s0] w fun e w' => e = .returned (.tuple #[.agg #[.bool false, .string ⟨#[]⟩, .bool false, .string ⟨#[]⟩], .int .i64 3]) ∧ Below w.heap.size w w' := by
 replace H1 := Lib.hid H1
 replace H2 := Lib.hid H2
 go_enter Tryz.func33, Tryz.ntmps33
 have HL0 := Lib.hid (Below.refl w.heap.size w)
 have HB0 := Lib.hid (show Bs [] w from trivial)
 have HO0 := Lib.hid (show w.heap.size ≤ w.heap.size from by have := HL0.out.size; first | omega | (simp at this; omega))
 obtain ⟨HL1, HB1⟩ := growLB HL0 HB0 (w.heap.size) #[.bool false, .string ⟨#[]⟩, .bool false, .string ⟨#[]⟩] 25
 clear HL0 HB0
 go_wp2_with fail
 refine (H1.out _).mono ?_
 rintro e w1 ⟨rfl, hb⟩
 obtain ⟨HL2, HB2⟩ := cameLB HL1 HB1 hb
 clear hb
 clear HL1 HB1
 go_wp2_with fail
 refine (H2.out _).mono ?_
 rintro e w2 ⟨rfl, hb⟩
 obtain ⟨HL3, HB3⟩ := cameLB HL2 HB2 hb
 clear hb
 clear HL2 HB2
 have HO1 := Lib.hid (show w.heap.size < w2.heap.size from by have := (HB3.out.1).lt; first | omega | (simp at this; omega))
 obtain ⟨HL4, HB4⟩ := growLB HL3 HB3 (w2.heap.size) #[.bool false, .string ⟨#[]⟩] 23
 clear HL3 HB3
 obtain ⟨fx0_0_4, fx0_1_4, fx0_2_4, fx0_3_4⟩ := (HB4.out.2.1).at4
 obtain ⟨fz0_0_4, fz0_1_4, fz0_2_4, fz0_3_4⟩ := (HB4.out.2.1).z4
 obtain ⟨HL5, HB5⟩ := keptLB (c := w.heap.size) [.bool false, .string ⟨#[]⟩, .bool false, .string ⟨#[]⟩] 0 1 HL4 HB4 (by have := HO0.out; have := HO1.out; omega) (by simp only [Bs.ap, Bs.ap0, List.length_cons, List.length_nil, and_true, true_and]; have := HO0.out; have := HO1.out; omega)
 simp only [setCs, setL, Bs.put, List.set_cons_succ, List.set_cons_zero, Nat.zero_add, Nat.reduceAdd] at HL5 HB5
 replace HL5 := Lib.hid HL5
 replace HB5 := Lib.hid HB5
 clear HL4 HB4
 obtain ⟨fx0_0_5, fx0_1_5, fx0_2_5, fx0_3_5⟩ := (HB5.out.2.1).at4
 go_wp2
 refine bodyPost_ret (v := .tuple #[.agg #[.bool false, .string ⟨#[]⟩, .bool false, .string ⟨#[]⟩], .int .i64 3]) (by simp [results, Tryz.results33, go_sem, fx0_0_5, fx0_1_5, fx0_2_5, fx0_3_5]) rfl ?_
 exact ⟨rfl, HL5.out⟩
theorem ratParse_bad1_n {sA sB : ByteArray} (s0 : ByteArray) (hl : decide ((65536 : Int) < s0.size) = false) (w : World)
  (H1 : GivesV 61 #[.string s0, .string ⟨#[47]⟩] (.tuple #[.string sA, .string sB, .bool false]))
  (H2 : GivesV 62 #[.string sA] (.tuple #[.agg #[.bool false, .string ⟨#[]⟩], .int .i64 3]))
  : Calls Tryz.prog 33 #[.string s0] w fun e w' => e = .returned (.tuple #[.agg #[.bool false, .string ⟨#[]⟩, .bool false, .string ⟨#[]⟩], .int .i64 3]) ∧ Below w.heap.size w w' := by
 replace H1 := Lib.hid H1
 replace H2 := Lib.hid H2
 go_enter Tryz.func33, Tryz.ntmps33
 have HL0 := Lib.hid (Below.refl w.heap.size w)
 have HB0 := Lib.hid (show Bs [] w from trivial)
 have HO0 := Lib.hid (show w.heap.size ≤ w.heap.size from by have := HL0.out.size; first | omega | (simp at this; omega))
 obtain ⟨HL1, HB1⟩ := growLB HL0 HB0 (w.heap.size) #[.bool false, .string ⟨#[]⟩, .bool false, .string ⟨#[]⟩] 25
 clear HL0 HB0
 go_wp2_with fail
 refine (H1.out _).mono ?_
 rintro e w1 ⟨rfl, hb⟩
 obtain ⟨HL2, HB2⟩ := cameLB HL1 HB1 hb
 clear hb
 clear HL1 HB1
 go_wp2_with fail
 refine (H2.out _).mono ?_
 rintro e w2 ⟨rfl, hb⟩
 obtain ⟨HL3, HB3⟩ := cameLB HL2 HB2 hb
 clear hb
 clear HL2 HB2
 have HO1 := Lib.hid (show w.heap.size < w2.heap.size from by have := (HB3.out.1).lt; first | omega | (simp at this; omega))
 obtain ⟨HL4, HB4⟩ := growLB HL3 HB3 (w2.heap.size) #[.bool false, .string ⟨#[]⟩] 23
 clear HL3 HB3
 obtain ⟨fx0_0_4, fx0_1_4, fx0_2_4, fx0_3_4⟩ := (HB4.out.2.1).at4
 obtain ⟨fz0_0_4, fz0_1_4, fz0_2_4, fz0_3_4⟩ := (HB4.out.2.1).z4
 obtain ⟨HL5, HB5⟩ := keptLB (c := w.heap.size) [.bool false, .string ⟨#[]⟩, .bool false, .string ⟨#[]⟩] 0 1 HL4 HB4 (by have := HO0.out; have := HO1.out; omega) (by simp only [Bs.ap, Bs.ap0, List.length_cons, List.length_nil, and_true, true_and]; have := HO0.out; have := HO1.out; omega)
 simp only [setCs, setL, Bs.put, List.set_cons_succ, List.set_cons_zero, Nat.zero_add, Nat.reduceAdd] at HL5 HB5
 replace HL5 := Lib.hid HL5
 replace HB5 := Lib.hid HB5
 clear HL4 HB4
 obtain ⟨fx0_0_5, fx0_1_5, fx0_2_5, fx0_3_5⟩ := (HB5.out.2.1).at4
 go_wp2
 refine bodyPost_ret (v := .tuple #[.agg #[.bool false, .string ⟨#[]⟩, .bool false, .string ⟨#[]⟩], .int .i64 3]) (by simp [results, Tryz.results33, go_sem, fx0_0_5, fx0_1_5, fx0_2_5, fx0_3_5]) rfl ?_
 exact ⟨rfl, HL5.out⟩
theorem ratParse_int (s0 : ByteArray) (hl : decide ((65536 : Int) < s0.size) = false) (w : World)
  (H1 : GivesV 61 #[.string s0, .string ⟨#[47]⟩] (.tuple #[.string sA, .string sB, .bool false]))
  (H2 : GivesV 62 #[.string sA] (.tuple #[.agg #[.bool na, .string sa], .int .i64 0]))
  (H3 : GivesV 15 #[.agg #[.bool na, .string sa]] (.agg #[.bool nr, .string sr, .bool mr, .string tr]))
  : Calls Tryz.prog 33 #[.string s0] w fun e w' => e = .returned (.tuple #[.agg #[.bool nr, .string sr, .bool mr, .string tr], .int .i64 0]) ∧ Below w.heap.size w w' := by
 replace H1 := Lib.hid H1
 replace H2 := Lib.hid H2
 replace H3 := Lib.hid H3
 go_enter Tryz.func33, Tryz.ntmps33
 have HL0 := Lib.hid (Below.refl w.heap.size w)
 have HB0 := Lib.hid (show Bs [] w from trivial)
 have HO0 := Lib.hid (show w.heap.size ≤ w.heap.size from by have := HL0.out.size; first | omega | (simp at this; omega))
 obtain ⟨HL1, HB1⟩ := growLB HL0 HB0 (w.heap.size) #[.bool false, .string ⟨#[]⟩, .bool false, .string ⟨#[]⟩] 25
 clear HL0 HB0
 go_wp2_with fail
 refine (H1.out _).mono ?_
 rintro e w1 ⟨rfl, hb⟩
 obtain ⟨HL2, HB2⟩ := cameLB HL1 HB1 hb
 clear hb
 clear HL1 HB1
 go_wp2_with fail
 refine (H2.out _).mono ?_
 rintro e w2 ⟨rfl, hb⟩
 obtain ⟨HL3, HB3⟩ := cameLB HL2 HB2 hb
 clear hb
 clear HL2 HB2
 have HO1 := Lib.hid (show w.heap.size < w2.heap.size from by have := (HB3.out.1).lt; first | omega | (simp at this; omega))
 obtain ⟨HL4, HB4⟩ := growLB HL3 HB3 (w2.heap.size) #[.bool na, .string sa] 23
 clear HL3 HB3
 obtain ⟨fx1_0_4, fx1_1_4⟩ := (HB4.out.1).at2
 go_wp2_with fail
 refine (H3.out _).mono ?_
 rintro e w3 ⟨rfl, hb⟩
 obtain ⟨HL5, HB5⟩ := cameLB HL4 HB4 hb
 clear hb
 clear HL4 HB4 fx1_0_4 fx1_1_4
 obtain ⟨fx0_0_5, fx0_1_5, fx0_2_5, fx0_3_5⟩ := (HB5.out.2.1).at4
 obtain ⟨fz0_0_5, fz0_1_5, fz0_2_5, fz0_3_5⟩ := (HB5.out.2.1).z4
 obtain ⟨HL6, HB6⟩ := keptLB (c := w.heap.size) [.bool nr, .string sr, .bool mr, .string tr] 0 1 HL5 HB5 (by have := HO0.out; have := HO1.out; omega) (by simp only [Bs.ap, Bs.ap0, List.length_cons, List.length_nil, and_true, true_and]; have := HO0.out; have := HO1.out; omega)
 simp only [setCs, setL, Bs.put, List.set_cons_succ, List.set_cons_zero, Nat.zero_add, Nat.reduceAdd] at HL6 HB6
 replace HL6 := Lib.hid HL6
 replace HB6 := Lib.hid HB6
 clear HL5 HB5
 obtain ⟨fx0_0_6, fx0_1_6, fx0_2_6, fx0_3_6⟩ := (HB6.out.2.1).at4
 go_wp2
 refine bodyPost_ret (v := .tuple #[.agg #[.bool nr, .string sr, .bool mr, .string tr], .int .i64 0]) (by simp [results, Tryz.results33, go_sem, fx0_0_6, fx0_1_6, fx0_2_6, fx0_3_6]) rfl ?_
 exact ⟨rfl, HL6.out⟩
theorem ratParse_bad2 (s0 : ByteArray) (hl : decide ((65536 : Int) < s0.size) = false) (w : World)
  (H1 : GivesV 61 #[.string s0, .string ⟨#[47]⟩] (.tuple #[.string sA, .string sB, .bool true]))
  (H2 : GivesV 62 #[.string sA] (.tuple #[.agg #[.bool na, .string sa], .int .i64 0]))
  (H3 : GivesV 62 #[.string sB] (.tuple #[.agg #[.bool false, .string ⟨#[]⟩], .int .i64 3]))
  : Calls Tryz.prog 33 #[.string s0] w fun e w' => e = .returned (.tuple #[.agg #[.bool false, .string ⟨#[]⟩, .bool false, .string ⟨#[]⟩], .int .i64 3]) ∧ Below w.heap.size w w' := by
 replace H1 := Lib.hid H1
 replace H2 := Lib.hid H2
 replace H3 := Lib.hid H3
 go_enter Tryz.func33, Tryz.ntmps33
 have HL0 := Lib.hid (Below.refl w.heap.size w)
 have HB0 := Lib.hid (show Bs [] w from trivial)
 have HO0 := Lib.hid (show w.heap.size ≤ w.heap.size from by have := HL0.out.size; first | omega | (simp at this; omega))
 obtain ⟨HL1, HB1⟩ := growLB HL0 HB0 (w.heap.size) #[.bool false, .string ⟨#[]⟩, .bool false, .string ⟨#[]⟩] 25
 clear HL0 HB0
 go_wp2_with fail
 refine (H1.out _).mono ?_
 rintro e w1 ⟨rfl, hb⟩
 obtain ⟨HL2, HB2⟩ := cameLB HL1 HB1 hb
 clear hb
 clear HL1 HB1
 go_wp2_with fail
 refine (H2.out _).mono ?_
 rintro e w2 ⟨rfl, hb⟩
 obtain ⟨HL3, HB3⟩ := cameLB HL2 HB2 hb
 clear hb
 clear HL2 HB2
 have HO1 := Lib.hid (show w.heap.size < w2.heap.size from by have := (HB3.out.1).lt; first | omega | (simp at this; omega))
 obtain ⟨HL4, HB4⟩ := growLB HL3 HB3 (w2.heap.size) #[.bool na, .string sa] 23
 clear HL3 HB3
 go_wp2_with fail
 refine (H3.out _).mono ?_
 rintro e w3 ⟨rfl, hb⟩
 obtain ⟨HL5, HB5⟩ := cameLB HL4 HB4 hb
 clear hb
 clear HL4 HB4
 have HO2 := Lib.hid (show w2.heap.size < w3.heap.size from by have := (HB5.out.1).lt; first | omega | (simp at this; omega))
 obtain ⟨HL6, HB6⟩ := growLB HL5 HB5 (w3.heap.size) #[.bool false, .string ⟨#[]⟩] 23
 clear HL5 HB5
 obtain ⟨fx0_0_6, fx0_1_6, fx0_2_6, fx0_3_6⟩ := (HB6.out.2.2.1).at4
 obtain ⟨fz0_0_6, fz0_1_6, fz0_2_6, fz0_3_6⟩ := (HB6.out.2.2.1).z4
 obtain ⟨HL7, HB7⟩ := keptLB (c := w.heap.size) [.bool false, .string ⟨#[]⟩, .bool false, .string ⟨#[]⟩] 0 2 HL6 HB6 (by have := HO0.out; have := HO1.out; have := HO2.out; omega) (by simp only [Bs.ap, Bs.ap0, List.length_cons, List.length_nil, and_true, true_and]; have := HO0.out; have := HO1.out; have := HO2.out; omega)
 simp only [setCs, setL, Bs.put, List.set_cons_succ, List.set_cons_zero, Nat.zero_add, Nat.reduceAdd] at HL7 HB7
 replace HL7 := Lib.hid HL7
 replace HB7 := Lib.hid HB7
 clear HL6 HB6
 obtain ⟨fx0_0_7, fx0_1_7, fx0_2_7, fx0_3_7⟩ := (HB7.out.2.2.1).at4
 go_wp2
 refine bodyPost_ret (v := .tuple #[.agg #[.bool false, .string ⟨#[]⟩, .bool false, .string ⟨#[]⟩], .int .i64 3]) (by simp [results, Tryz.results33, go_sem, fx0_0_7, fx0_1_7, fx0_2_7, fx0_3_7]) rfl ?_
 exact ⟨rfl, HL7.out⟩
end Go.Proofs.Gv
