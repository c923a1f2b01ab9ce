/- The law IntegerRoots, walked. -/
import Derived.Test.YtpnhccpfbeidlaaLawKit
namespace Go.Proofs.Gv
open Go Go.RowKit

set_option maxRecDepth 100000 in
set_option maxHeartbeats 4000000 in
theorem roots_great (na : Bool) (sa : ByteArray) (m n : Int) (ha : sa.size ≤ maxLen) (hgr : gr [(na, sa)] = true) (w : World)
    : Calls Try.prog 6 #[.agg #[.bool na, .string sa], .int .u8 m, .int .u8 n] w fun e w' => e = .returned (.bool true) ∧ Below w.heap.size w w' := by
  have HA := Lib.hid ha
  clear ha
  go_enter Try.func6, Try.ntmps6
  have HL0 := Lib.hid (Below.refl w.heap.size w)
  have HD0 := Lib.hid (Bxs.nil w)
  have HL1 := Lib.hid (HL0.out.alloc HL0.out.size (.cells #[.bool na, .string sa] 23))
  have HD1 := Lib.hid (HD0.out.push' (w.heap.size) na sa (by simp))
  clear HL0 HD0
  obtain ⟨fx0, fy0⟩ := HD1.out.get (w.heap.size) na sa (by simp)
  go_wp2_with fail
  refine (great1 na sa _ (w.heap.size + 1) (by simp) HA.out).mono ?_
  rintro e w1 ⟨rfl, hb⟩
  have HL2 := Lib.hid (bstep HL1.out hb)
  have HD2 := Lib.hid (HD1.out.below hb)
  clear hb HL1 HD1
  go_wp2_with fail
  refine (awake01 _).mono ?_
  rintro e w2 ⟨rfl, hb⟩
  have HL3 := Lib.hid (bstep HL2.out hb)
  have HD3 := Lib.hid (HD2.out.below hb)
  clear hb HL2 HD2
  go_wp2
  go_ret
  exact ⟨rfl, HL3.out⟩

set_option maxRecDepth 100000 in
set_option maxHeartbeats 4000000 in
theorem roots_neg (na nx ny nz : Bool) (sa sx sy sz : ByteArray) (m n : Int) (hm0 : 0 ≤ m ∧ m ≤ 255) (hn0 : 0 ≤ n ∧ n ≤ 255) (ha : sa.size ≤ maxLen) (hgr : gr [(na, sa)] = false) (w : World)
    (H1 : ∀ W, Calls Try.prog 23 #[.agg #[.bool na, .string sa], .int .i64 (1 + (m % 8))] W fun e w' => e = .returned (.tuple #[.agg #[.bool false, .string ⟨#[]⟩], .int .i64 2]) ∧ Below W.heap.size W w')
    (H2 : ∀ W, Calls Try.prog 25 #[.agg #[.bool na, .string sa], .int .i64 (1 + (m % 8))] W fun e w' => e = .returned (.tuple #[.agg #[.bool nx, .string sx], .int .i64 0]) ∧ Below W.heap.size W w')
    (H3 : ∀ W, Calls Try.prog 25 #[.agg #[.bool na, .string sa], .int .i64 (1 + (n % 8))] W fun e w' => e = .returned (.tuple #[.agg #[.bool ny, .string sy], .int .i64 0]) ∧ Below W.heap.size W w')
    (H4 : ∀ W, Calls Try.prog 25 #[.agg #[.bool na, .string sa], .int .i64 ((1 + (m % 8)) + (1 + (n % 8)))] W fun e w' => e = .returned (.tuple #[.agg #[.bool nz, .string sz], .int .i64 0]) ∧ Below W.heap.size W w')
    (H5 : ∀ W, Calls Try.prog 18 #[.agg #[.bool nx, .string sx], .agg #[.bool ny, .string sy]] W fun e w' => e = .returned (.agg #[.bool nz, .string sz]) ∧ Below W.heap.size W w')
    (H6 : ∀ W, Calls Try.prog 29 #[.agg #[.bool na, .string sa], .agg #[.bool false, .string ⟨#[]⟩]] W fun e w' => e = .returned (.int .i64 (-1)) ∧ Below W.heap.size W w')
    : Calls Try.prog 6 #[.agg #[.bool na, .string sa], .int .u8 m, .int .u8 n] w fun e w' => e = .returned (.bool true) ∧ Below w.heap.size w w' := by
  replace H1 := Lib.hid H1
  replace H2 := Lib.hid H2
  replace H3 := Lib.hid H3
  replace H4 := Lib.hid H4
  replace H5 := Lib.hid H5
  replace H6 := Lib.hid H6
  have HA := Lib.hid ha
  clear ha
  have qz : eqI nz sz nz sz = true := eqI_iff.mpr ⟨rfl, rfl⟩
  have q0 : eqI false ⟨#[]⟩ false ⟨#[]⟩ = true := eqI_iff.mpr ⟨rfl, rfl⟩
  go_enter Try.func6, Try.ntmps6
  have HL0 := Lib.hid (Below.refl w.heap.size w)
  have HD0 := Lib.hid (Bxs.nil w)
  have HL1 := Lib.hid (HL0.out.alloc HL0.out.size (.cells #[.bool na, .string sa] 23))
  have HD1 := Lib.hid (HD0.out.push' (w.heap.size) na sa (by simp))
  clear HL0 HD0
  obtain ⟨fx0, fy0⟩ := HD1.out.get (w.heap.size) na sa (by simp)
  go_wp2_with fail
  refine (great1 na sa _ (w.heap.size + 1) (by simp) HA.out).mono ?_
  rintro e w1 ⟨rfl, hb⟩
  have HL2 := Lib.hid (bstep HL1.out hb)
  have HD2 := Lib.hid (HD1.out.below hb)
  clear hb HL1 HD1
  have HL3 := Lib.hid (HL2.out.alloc HL2.out.size (.cells #[.bool false, .string ⟨#[]⟩] 23))
  have HD3 := Lib.hid (HD2.out.push' (w1.heap.size) false ⟨#[]⟩ (by simp))
  clear HL2 HD2
  obtain ⟨fx0, fy0⟩ := HD3.out.get (w.heap.size) na sa (by simp)
  go_wp2_with fail
  refine (H1.out _).mono ?_
  rintro e w2 ⟨rfl, hb⟩
  have HL4 := Lib.hid (bstep HL3.out hb)
  have HD4 := Lib.hid (HD3.out.below hb)
  clear hb HL3 HD3
  have HL5 := Lib.hid (HL4.out.alloc HL4.out.size (.cells #[.bool false, .string ⟨#[]⟩] 23))
  have HD5 := Lib.hid (HD4.out.push' (w2.heap.size) false ⟨#[]⟩ (by simp))
  clear HL4 HD4
  obtain ⟨fx0, fy0⟩ := HD5.out.get (w.heap.size) na sa (by simp)
  go_wp2_with fail
  refine (H2.out _).mono ?_
  rintro e w3 ⟨rfl, hb⟩
  have HL6 := Lib.hid (bstep HL5.out hb)
  have HD6 := Lib.hid (HD5.out.below hb)
  clear hb HL5 HD5
  have HL7 := Lib.hid (HL6.out.alloc HL6.out.size (.cells #[.bool nx, .string sx] 23))
  have HD7 := Lib.hid (HD6.out.push' (w3.heap.size) nx sx (by simp))
  clear HL6 HD6
  obtain ⟨fx0, fy0⟩ := HD7.out.get (w.heap.size) na sa (by simp)
  go_wp2_with fail
  refine (H3.out _).mono ?_
  rintro e w4 ⟨rfl, hb⟩
  have HL8 := Lib.hid (bstep HL7.out hb)
  have HD8 := Lib.hid (HD7.out.below hb)
  clear hb HL7 HD7
  have HL9 := Lib.hid (HL8.out.alloc HL8.out.size (.cells #[.bool ny, .string sy] 23))
  have HD9 := Lib.hid (HD8.out.push' (w4.heap.size) ny sy (by simp))
  clear HL8 HD8
  obtain ⟨fx0, fy0⟩ := HD9.out.get (w.heap.size) na sa (by simp)
  go_wp2_with fail
  refine (H4.out _).mono ?_
  rintro e w5 ⟨rfl, hb⟩
  have HL10 := Lib.hid (bstep HL9.out hb)
  have HD10 := Lib.hid (HD9.out.below hb)
  clear hb HL9 HD9
  have HL11 := Lib.hid (HL10.out.alloc HL10.out.size (.cells #[.bool nz, .string sz] 23))
  have HD11 := Lib.hid (HD10.out.push' (w5.heap.size) nz sz (by simp))
  clear HL10 HD10
  go_wp2_with fail
  obtain ⟨Bw1, hB⟩ : ∃ B, w1.heap.size = B := ⟨_, rfl⟩
  rw [hB] at HD11 ⊢
  clear hB
  obtain ⟨Bw2, hB⟩ : ∃ B, w2.heap.size = B := ⟨_, rfl⟩
  rw [hB] at HD11 ⊢
  clear hB
  obtain ⟨Bw3, hB⟩ : ∃ B, w3.heap.size = B := ⟨_, rfl⟩
  rw [hB] at HD11 ⊢
  clear hB
  obtain ⟨Bw4, hB⟩ : ∃ B, w4.heap.size = B := ⟨_, rfl⟩
  rw [hB] at HD11 ⊢
  clear hB
  obtain ⟨Bw5, hB⟩ : ∃ B, w5.heap.size = B := ⟨_, rfl⟩
  rw [hB] at HD11 ⊢
  clear hB
  obtain ⟨W6, hW⟩ : ∃ W, (w5.alloc (.cells #[.bool nz, .string sz] 23)) = W := ⟨_, rfl⟩
  rw [hW] at HD11 HL11 ⊢
  clear hW
  have hmk : ∀ w', Below W6.heap.size W6 w' → Below W6.heap.size W6 w' ∧ w'.cell? ⟨Bw3, 0, none⟩ = some (.bool nx) ∧ w'.cell? ⟨Bw3, 1, none⟩ = some (.string sx) ∧ w'.cell? ⟨Bw4, 0, none⟩ = some (.bool ny) ∧ w'.cell? ⟨Bw4, 1, none⟩ = some (.string sy) ∧ w'.cell? ⟨Bw5, 0, none⟩ = some (.bool nz) ∧ w'.cell? ⟨Bw5, 1, none⟩ = some (.string sz) ∧ True := fun w' h => by
    have hd := HD11.out.below h
    obtain ⟨x3, y3⟩ := hd.get (Bw3) nx sx (by simp)
    obtain ⟨x4, y4⟩ := hd.get (Bw4) ny sy (by simp)
    obtain ⟨x5, y5⟩ := hd.get (Bw5) nz sz (by simp)
    exact ⟨h, x3, y3, x4, y4, x5, y5, trivial⟩
  replace hmk := Lib.hid hmk
  obtain ⟨-, fx3, fy3, fx4, fy4, fx5, fy5, -⟩ := hmk.out _ (Below.refl _ W6)
  have tk0 := Lib.hid trivial
  have hs0 : W6.heap.size ≤ W6.heap.size := Nat.le_refl _
  go_region_held3 (fun w' => Below W6.heap.size W6 w' ∧ w'.cell? ⟨Bw3, 0, none⟩ = some (.bool nx) ∧ w'.cell? ⟨Bw3, 1, none⟩ = some (.string sx) ∧ w'.cell? ⟨Bw4, 0, none⟩ = some (.bool ny) ∧ w'.cell? ⟨Bw4, 1, none⟩ = some (.string sy) ∧ w'.cell? ⟨Bw5, 0, none⟩ = some (.bool nz) ∧ w'.cell? ⟨Bw5, 1, none⟩ = some (.string sz) ∧ True) ((refine hmk.out _ ?_; first | exact ⟨rfl, rfl, rfl, Nat.le_refl _, fun _ _ => rfl⟩ | exact bstep (‹Below W6.heap.size W6 _ ∧ _›).1 hb | exact (‹Below W6.heap.size W6 _ ∧ _›).1.alloc (‹Below W6.heap.size W6 _ ∧ _›).1.size _ | exact below_re _ (‹Below W6.heap.size W6 _ ∧ _›).1 (by simp; try omega) | exact below_re _ (‹Below W6.heap.size W6 _ ∧ _›).1 (by omega) | exact below_re2 _ (‹Below W6.heap.size W6 _ ∧ _›).1 (by omega) | exact ((‹Below W6.heap.size W6 _ ∧ _›).1.setCell (p := ⟨_, 0, none⟩) (by simp; try omega) _).setCell (p := ⟨_, 1, none⟩) (by simp; try omega) _ | exact ((‹Below W6.heap.size W6 _ ∧ _›).1.setCell (p := ⟨_, 0, none⟩) (by omega) _).setCell (p := ⟨_, 1, none⟩) (by omega) _)) (first
    | (go_at_call 18; have hz := tk0.out; clear hz; refine (H5.out _).mono ?_; rintro e w7 ⟨rfl, hb⟩; have tk1 := Lib.hid trivial; clear tk0))
  all_goals (
    have hB := (‹Below W6.heap.size W6 _ ∧ _›).1
    have HL12 := Lib.hid (bstep HL11.out hB)
    have HD12 := Lib.hid (HD11.out.below hB)
    clear hB hmk HL11 HD11
    obtain ⟨fx0, fy0⟩ := HD12.out.get (w.heap.size) na sa (by simp)
    obtain ⟨fx1, fy1⟩ := HD12.out.get (Bw1) false ⟨#[]⟩ (by simp)
    go_wp2_with fail
    refine (H6.out _).mono ?_
    rintro e w8 ⟨rfl, hb⟩
    have HL13 := Lib.hid (bstep HL12.out hb)
    have HD13 := Lib.hid (HD12.out.below hb)
    clear hb HL12 HD12
    obtain ⟨fx2, fy2⟩ := HD13.out.get (Bw2) false ⟨#[]⟩ (by simp)
    obtain ⟨fx1, fy1⟩ := HD13.out.get (Bw1) false ⟨#[]⟩ (by simp)
    go_wp2_with fail
    refine (awake01 _).mono ?_
    rintro e w9 ⟨rfl, hb⟩
    have HL14 := Lib.hid (bstep HL13.out hb)
    have HD14 := Lib.hid (HD13.out.below hb)
    clear hb HL13 HD13
    go_wp2
    go_ret
    exact ⟨rfl, HL14.out⟩)

set_option maxRecDepth 100000 in
set_option maxHeartbeats 4000000 in
theorem roots_pos (na nb nh nl no nr1 nx ny nz : Bool) (sa sb sh sl so sr1 sx sy sz : ByteArray) (m n c1 c2 : Int) (hm0 : 0 ≤ m ∧ m ≤ 255) (hn0 : 0 ≤ n ∧ n ≤ 255) (ha : sa.size ≤ maxLen) (hgr : gr [(na, sa)] = false) (t1 : decide (c1 < 0) = false) (t2 : decide (c2 ≤ 0) = true) (sr : ByteArray) (w : World)
    (H1 : ∀ W, Calls Try.prog 23 #[.agg #[.bool na, .string sa], .int .i64 (1 + (m % 8))] W fun e w' => e = .returned (.tuple #[.agg #[.bool false, .string sr], .int .i64 0]) ∧ Below W.heap.size W w')
    (H2 : ∀ W, Calls Try.prog 25 #[.agg #[.bool na, .string sa], .int .i64 (1 + (m % 8))] W fun e w' => e = .returned (.tuple #[.agg #[.bool nx, .string sx], .int .i64 0]) ∧ Below W.heap.size W w')
    (H3 : ∀ W, Calls Try.prog 25 #[.agg #[.bool na, .string sa], .int .i64 (1 + (n % 8))] W fun e w' => e = .returned (.tuple #[.agg #[.bool ny, .string sy], .int .i64 0]) ∧ Below W.heap.size W w')
    (H4 : ∀ W, Calls Try.prog 25 #[.agg #[.bool na, .string sa], .int .i64 ((1 + (m % 8)) + (1 + (n % 8)))] W fun e w' => e = .returned (.tuple #[.agg #[.bool nz, .string sz], .int .i64 0]) ∧ Below W.heap.size W w')
    (H5 : ∀ W, Calls Try.prog 18 #[.agg #[.bool nx, .string sx], .agg #[.bool ny, .string sy]] W fun e w' => e = .returned (.agg #[.bool nz, .string sz]) ∧ Below W.heap.size W w')
    (H6 : ∀ W, Calls Try.prog 29 #[.agg #[.bool na, .string sa], .agg #[.bool false, .string ⟨#[]⟩]] W fun e w' => e = .returned (.int .i64 c1) ∧ Below W.heap.size W w')
    (H7 : ∀ W, Calls Try.prog 25 #[.agg #[.bool false, .string sr], .int .i64 (1 + (m % 8))] W fun e w' => e = .returned (.tuple #[.agg #[.bool nl, .string sl], .int .i64 0]) ∧ Below W.heap.size W w')
    (H8 : ∀ W, Calls Try.prog 31 #[.int .i64 1] W fun e w' => e = .returned (.agg #[.bool no, .string so]) ∧ Below W.heap.size W w')
    (H9 : ∀ W, Calls Try.prog 14 #[.agg #[.bool false, .string sr], .agg #[.bool no, .string so]] W fun e w' => e = .returned (.agg #[.bool nr1, .string sr1]) ∧ Below W.heap.size W w')
    (H10 : ∀ W, Calls Try.prog 25 #[.agg #[.bool nr1, .string sr1], .int .i64 (1 + (m % 8))] W fun e w' => e = .returned (.tuple #[.agg #[.bool nh, .string sh], .int .i64 0]) ∧ Below W.heap.size W w')
    (H11 : ∀ W, Calls Try.prog 23 #[.agg #[.bool nx, .string sx], .int .i64 (1 + (m % 8))] W fun e w' => e = .returned (.tuple #[.agg #[.bool nb, .string sb], .int .i64 0]) ∧ Below W.heap.size W w')
    (H12 : ∀ W, Calls Try.prog 29 #[.agg #[.bool nl, .string sl], .agg #[.bool na, .string sa]] W fun e w' => e = .returned (.int .i64 c2) ∧ Below W.heap.size W w')
    (H13 : ∀ W, Calls Try.prog 29 #[.agg #[.bool na, .string sa], .agg #[.bool nh, .string sh]] W fun e w' => e = .returned (.int .i64 (-1)) ∧ Below W.heap.size W w')
    (H14 : ∀ W, Calls Try.prog 29 #[.agg #[.bool nb, .string sb], .agg #[.bool na, .string sa]] W fun e w' => e = .returned (.int .i64 0) ∧ Below W.heap.size W w')
    : Calls Try.prog 6 #[.agg #[.bool na, .string sa], .int .u8 m, .int .u8 n] w fun e w' => e = .returned (.bool true) ∧ Below w.heap.size w w' := by
  replace H1 := Lib.hid H1
  replace H2 := Lib.hid H2
  replace H3 := Lib.hid H3
  replace H4 := Lib.hid H4
  replace H5 := Lib.hid H5
  replace H6 := Lib.hid H6
  replace H7 := Lib.hid H7
  replace H8 := Lib.hid H8
  replace H9 := Lib.hid H9
  replace H10 := Lib.hid H10
  replace H11 := Lib.hid H11
  replace H12 := Lib.hid H12
  replace H13 := Lib.hid H13
  replace H14 := Lib.hid H14
  have HA := Lib.hid ha
  clear ha
  have qz : eqI nz sz nz sz = true := eqI_iff.mpr ⟨rfl, rfl⟩
  have q0 : eqI false ⟨#[]⟩ false ⟨#[]⟩ = true := eqI_iff.mpr ⟨rfl, rfl⟩
  go_enter Try.func6, Try.ntmps6
  have HL0 := Lib.hid (Below.refl w.heap.size w)
  have HD0 := Lib.hid (Bxs.nil w)
  have HL1 := Lib.hid (HL0.out.alloc HL0.out.size (.cells #[.bool na, .string sa] 23))
  have HD1 := Lib.hid (HD0.out.push' (w.heap.size) na sa (by simp))
  clear HL0 HD0
  obtain ⟨fx0, fy0⟩ := HD1.out.get (w.heap.size) na sa (by simp)
  go_wp2_with fail
  refine (great1 na sa _ (w.heap.size + 1) (by simp) HA.out).mono ?_
  rintro e w1 ⟨rfl, hb⟩
  have HL2 := Lib.hid (bstep HL1.out hb)
  have HD2 := Lib.hid (HD1.out.below hb)
  clear hb HL1 HD1
  have HL3 := Lib.hid (HL2.out.alloc HL2.out.size (.cells #[.bool false, .string ⟨#[]⟩] 23))
  have HD3 := Lib.hid (HD2.out.push' (w1.heap.size) false ⟨#[]⟩ (by simp))
  clear HL2 HD2
  obtain ⟨fx0, fy0⟩ := HD3.out.get (w.heap.size) na sa (by simp)
  go_wp2_with fail
  refine (H1.out _).mono ?_
  rintro e w2 ⟨rfl, hb⟩
  have HL4 := Lib.hid (bstep HL3.out hb)
  have HD4 := Lib.hid (HD3.out.below hb)
  clear hb HL3 HD3
  have HL5 := Lib.hid (HL4.out.alloc HL4.out.size (.cells #[.bool false, .string sr] 23))
  have HD5 := Lib.hid (HD4.out.push' (w2.heap.size) false sr (by simp))
  clear HL4 HD4
  obtain ⟨fx0, fy0⟩ := HD5.out.get (w.heap.size) na sa (by simp)
  go_wp2_with fail
  refine (H2.out _).mono ?_
  rintro e w3 ⟨rfl, hb⟩
  have HL6 := Lib.hid (bstep HL5.out hb)
  have HD6 := Lib.hid (HD5.out.below hb)
  clear hb HL5 HD5
  have HL7 := Lib.hid (HL6.out.alloc HL6.out.size (.cells #[.bool nx, .string sx] 23))
  have HD7 := Lib.hid (HD6.out.push' (w3.heap.size) nx sx (by simp))
  clear HL6 HD6
  obtain ⟨fx0, fy0⟩ := HD7.out.get (w.heap.size) na sa (by simp)
  go_wp2_with fail
  refine (H3.out _).mono ?_
  rintro e w4 ⟨rfl, hb⟩
  have HL8 := Lib.hid (bstep HL7.out hb)
  have HD8 := Lib.hid (HD7.out.below hb)
  clear hb HL7 HD7
  have HL9 := Lib.hid (HL8.out.alloc HL8.out.size (.cells #[.bool ny, .string sy] 23))
  have HD9 := Lib.hid (HD8.out.push' (w4.heap.size) ny sy (by simp))
  clear HL8 HD8
  obtain ⟨fx0, fy0⟩ := HD9.out.get (w.heap.size) na sa (by simp)
  go_wp2_with fail
  refine (H4.out _).mono ?_
  rintro e w5 ⟨rfl, hb⟩
  have HL10 := Lib.hid (bstep HL9.out hb)
  have HD10 := Lib.hid (HD9.out.below hb)
  clear hb HL9 HD9
  have HL11 := Lib.hid (HL10.out.alloc HL10.out.size (.cells #[.bool nz, .string sz] 23))
  have HD11 := Lib.hid (HD10.out.push' (w5.heap.size) nz sz (by simp))
  clear HL10 HD10
  go_wp2_with fail
  obtain ⟨Bw1, hB⟩ : ∃ B, w1.heap.size = B := ⟨_, rfl⟩
  rw [hB] at HD11 ⊢
  clear hB
  obtain ⟨Bw2, hB⟩ : ∃ B, w2.heap.size = B := ⟨_, rfl⟩
  rw [hB] at HD11 ⊢
  clear hB
  obtain ⟨Bw3, hB⟩ : ∃ B, w3.heap.size = B := ⟨_, rfl⟩
  rw [hB] at HD11 ⊢
  clear hB
  obtain ⟨Bw4, hB⟩ : ∃ B, w4.heap.size = B := ⟨_, rfl⟩
  rw [hB] at HD11 ⊢
  clear hB
  obtain ⟨Bw5, hB⟩ : ∃ B, w5.heap.size = B := ⟨_, rfl⟩
  rw [hB] at HD11 ⊢
  clear hB
  obtain ⟨W6, hW⟩ : ∃ W, (w5.alloc (.cells #[.bool nz, .string sz] 23)) = W := ⟨_, rfl⟩
  rw [hW] at HD11 HL11 ⊢
  clear hW
  have hmk : ∀ w', Below W6.heap.size W6 w' → Below W6.heap.size W6 w' ∧ w'.cell? ⟨Bw3, 0, none⟩ = some (.bool nx) ∧ w'.cell? ⟨Bw3, 1, none⟩ = some (.string sx) ∧ w'.cell? ⟨Bw4, 0, none⟩ = some (.bool ny) ∧ w'.cell? ⟨Bw4, 1, none⟩ = some (.string sy) ∧ w'.cell? ⟨Bw5, 0, none⟩ = some (.bool nz) ∧ w'.cell? ⟨Bw5, 1, none⟩ = some (.string sz) ∧ True := fun w' h => by
    have hd := HD11.out.below h
    obtain ⟨x3, y3⟩ := hd.get (Bw3) nx sx (by simp)
    obtain ⟨x4, y4⟩ := hd.get (Bw4) ny sy (by simp)
    obtain ⟨x5, y5⟩ := hd.get (Bw5) nz sz (by simp)
    exact ⟨h, x3, y3, x4, y4, x5, y5, trivial⟩
  replace hmk := Lib.hid hmk
  obtain ⟨-, fx3, fy3, fx4, fy4, fx5, fy5, -⟩ := hmk.out _ (Below.refl _ W6)
  have tk0 := Lib.hid trivial
  have hs0 : W6.heap.size ≤ W6.heap.size := Nat.le_refl _
  go_region_held3 (fun w' => Below W6.heap.size W6 w' ∧ w'.cell? ⟨Bw3, 0, none⟩ = some (.bool nx) ∧ w'.cell? ⟨Bw3, 1, none⟩ = some (.string sx) ∧ w'.cell? ⟨Bw4, 0, none⟩ = some (.bool ny) ∧ w'.cell? ⟨Bw4, 1, none⟩ = some (.string sy) ∧ w'.cell? ⟨Bw5, 0, none⟩ = some (.bool nz) ∧ w'.cell? ⟨Bw5, 1, none⟩ = some (.string sz) ∧ True) ((refine hmk.out _ ?_; first | exact ⟨rfl, rfl, rfl, Nat.le_refl _, fun _ _ => rfl⟩ | exact bstep (‹Below W6.heap.size W6 _ ∧ _›).1 hb | exact (‹Below W6.heap.size W6 _ ∧ _›).1.alloc (‹Below W6.heap.size W6 _ ∧ _›).1.size _ | exact below_re _ (‹Below W6.heap.size W6 _ ∧ _›).1 (by simp; try omega) | exact below_re _ (‹Below W6.heap.size W6 _ ∧ _›).1 (by omega) | exact below_re2 _ (‹Below W6.heap.size W6 _ ∧ _›).1 (by omega) | exact ((‹Below W6.heap.size W6 _ ∧ _›).1.setCell (p := ⟨_, 0, none⟩) (by simp; try omega) _).setCell (p := ⟨_, 1, none⟩) (by simp; try omega) _ | exact ((‹Below W6.heap.size W6 _ ∧ _›).1.setCell (p := ⟨_, 0, none⟩) (by omega) _).setCell (p := ⟨_, 1, none⟩) (by omega) _)) (first
    | (go_at_call 18; have hz := tk0.out; clear hz; refine (H5.out _).mono ?_; rintro e w7 ⟨rfl, hb⟩; have tk1 := Lib.hid trivial; clear tk0))
  all_goals (
    have hB := (‹Below W6.heap.size W6 _ ∧ _›).1
    have HL12 := Lib.hid (bstep HL11.out hB)
    have HD12 := Lib.hid (HD11.out.below hB)
    clear hB hmk HL11 HD11
    obtain ⟨fx0, fy0⟩ := HD12.out.get (w.heap.size) na sa (by simp)
    obtain ⟨fx1, fy1⟩ := HD12.out.get (Bw1) false ⟨#[]⟩ (by simp)
    go_wp2_with fail
    refine (H6.out _).mono ?_
    rintro e w8 ⟨rfl, hb⟩
    have HL13 := Lib.hid (bstep HL12.out hb)
    have HD13 := Lib.hid (HD12.out.below hb)
    clear hb HL12 HD12
    obtain ⟨fx2, fy2⟩ := HD13.out.get (Bw2) false sr (by simp)
    go_wp2_with fail
    refine (H7.out _).mono ?_
    rintro e w9 ⟨rfl, hb⟩
    have HL14 := Lib.hid (bstep HL13.out hb)
    have HD14 := Lib.hid (HD13.out.below hb)
    clear hb HL13 HD13
    have HL15 := Lib.hid (HL14.out.alloc HL14.out.size (.cells #[.bool nl, .string sl] 23))
    have HD15 := Lib.hid (HD14.out.push' (w9.heap.size) nl sl (by simp))
    clear HL14 HD14
    go_upto_region 14 with fail
    obtain ⟨Bw9, hB⟩ : ∃ B, w9.heap.size = B := ⟨_, rfl⟩
    rw [hB] at HD15 ⊢
    clear hB
    obtain ⟨W10, hW⟩ : ∃ W, (w9.alloc (.cells #[.bool nl, .string sl] 23)) = W := ⟨_, rfl⟩
    rw [hW] at HD15 HL15 ⊢
    clear hW
    have hmk : ∀ w', Below W10.heap.size W10 w' → Below W10.heap.size W10 w' ∧ w'.cell? ⟨Bw2, 0, none⟩ = some (.bool false) ∧ w'.cell? ⟨Bw2, 1, none⟩ = some (.string sr) ∧ True := fun w' h => by
      have hd := HD15.out.below h
      obtain ⟨x2, y2⟩ := hd.get (Bw2) false sr (by simp)
      exact ⟨h, x2, y2, trivial⟩
    replace hmk := Lib.hid hmk
    go_cut [15, 19] (fun s15 s19 wx => ∃ B19 : Nat, s15 = .int .i64 0 ∧ s19 = .pointer (some ⟨B19, 0, none⟩) ∧ Below W10.heap.size W10 wx ∧ W10.heap.size ≤ B19 ∧ Bx wx B19 nh sh)
    case first =>
      obtain ⟨-, fx2, fy2, -⟩ := hmk.out _ (Below.refl _ W10)
      have tk0 := Lib.hid trivial
      have hs0 : W10.heap.size ≤ W10.heap.size := Nat.le_refl _
      go_region_held3 (fun w' => Below W10.heap.size W10 w' ∧ w'.cell? ⟨Bw2, 0, none⟩ = some (.bool false) ∧ w'.cell? ⟨Bw2, 1, none⟩ = some (.string sr) ∧ True) ((refine hmk.out _ ?_; first | exact ⟨rfl, rfl, rfl, Nat.le_refl _, fun _ _ => rfl⟩ | exact bstep (‹Below W10.heap.size W10 _ ∧ _›).1 hb | exact (‹Below W10.heap.size W10 _ ∧ _›).1.alloc (‹Below W10.heap.size W10 _ ∧ _›).1.size _ | exact below_re _ (‹Below W10.heap.size W10 _ ∧ _›).1 (by simp; try omega) | exact below_re _ (‹Below W10.heap.size W10 _ ∧ _›).1 (by omega) | exact below_re2 _ (‹Below W10.heap.size W10 _ ∧ _›).1 (by omega) | exact ((‹Below W10.heap.size W10 _ ∧ _›).1.setCell (p := ⟨_, 0, none⟩) (by simp; try omega) _).setCell (p := ⟨_, 1, none⟩) (by simp; try omega) _ | exact ((‹Below W10.heap.size W10 _ ∧ _›).1.setCell (p := ⟨_, 0, none⟩) (by omega) _).setCell (p := ⟨_, 1, none⟩) (by omega) _)) (first
        | (go_at_call 31; have hz := tk0.out; clear hz; refine (H8.out _).mono ?_; rintro e w11 ⟨rfl, hb⟩; have tk1 := Lib.hid trivial; clear tk0; (have hs1 : W10.heap.size ≤ w11.heap.size := (bstep (‹Below W10.heap.size W10 _ ∧ _›).1 hb).size); (first | replace hx1 := hx1.below hb | replace hx1 := (hx1.alloc _).below hb | skip); (first | replace hx2 := hx2.below hb | skip); (first | (have hxx := hx1; clear hxx; have hx2 := (Bx.new _ _ _ _ rfl).below hb) | (have hxx := hx1; clear hxx; skip) | (have hx1 := ((Bx.new _ _ _ _ rfl).alloc _).below hb; have hx2 := (Bx.new _ _ _ _ rfl).below hb; simp only [World.size_alloc] at hx2) | have hx1 := (Bx.new _ _ _ _ rfl).below hb | skip); (first | (obtain ⟨hxa1, hxb1, hxc1, hxd1, hxe1⟩ := (id hx1)) | skip); (first | (obtain ⟨hxa2, hxb2, hxc2, hxd2, hxe2⟩ := (id hx2)) | skip))
        | (go_at_call 14; have hz := tk1.out; clear hz; refine (H9.out _).mono ?_; rintro e w12 ⟨rfl, hb⟩; have tk2 := Lib.hid trivial; clear tk1; (have hs2 : W10.heap.size ≤ w12.heap.size := (bstep (‹Below W10.heap.size W10 _ ∧ _›).1 hb).size); (first | replace hx1 := hx1.below hb | replace hx1 := (hx1.alloc _).below hb | skip); (first | replace hx2 := hx2.below hb | skip); (first | (have hxx := hx1; clear hxx; have hx2 := (Bx.new _ _ _ _ rfl).below hb) | (have hxx := hx1; clear hxx; skip) | (have hx1 := ((Bx.new _ _ _ _ rfl).alloc _).below hb; have hx2 := (Bx.new _ _ _ _ rfl).below hb; simp only [World.size_alloc] at hx2) | have hx1 := (Bx.new _ _ _ _ rfl).below hb | skip); (first | (obtain ⟨hxa1, hxb1, hxc1, hxd1, hxe1⟩ := (id hx1)) | skip); (first | (obtain ⟨hxa2, hxb2, hxc2, hxd2, hxe2⟩ := (id hx2)) | skip))
        | (go_at_call 25; have hz := tk2.out; clear hz; refine (H10.out _).mono ?_; rintro e w13 ⟨rfl, hb⟩; have tk3 := Lib.hid trivial; clear tk2; (have hs3 : W10.heap.size ≤ w13.heap.size := (bstep (‹Below W10.heap.size W10 _ ∧ _›).1 hb).size); (first | replace hx1 := hx1.below hb | replace hx1 := (hx1.alloc _).below hb | skip); (first | replace hx2 := hx2.below hb | skip); (first | (have hxx := hx1; clear hxx; have hx2 := (Bx.new _ _ _ _ rfl).below hb) | (have hxx := hx1; clear hxx; skip) | (have hx1 := ((Bx.new _ _ _ _ rfl).alloc _).below hb; have hx2 := (Bx.new _ _ _ _ rfl).below hb; simp only [World.size_alloc] at hx2) | have hx1 := (Bx.new _ _ _ _ rfl).below hb | skip); (first | (obtain ⟨hxa1, hxb1, hxc1, hxd1, hxe1⟩ := (id hx1)) | skip); (first | (obtain ⟨hxa2, hxb2, hxc2, hxd2, hxe2⟩ := (id hx2)) | skip)))
      all_goals (go_wp2_with fail; go_meet)
      all_goals (refine ⟨_, rfl, rfl, (‹Below W10.heap.size W10 _ ∧ _›).1, ?_, ?_⟩)
      all_goals (first | omega | (simp; done) | (simp; omega) | exact Bx.new _ _ _ _ (by simp) | exact (Bx.new _ _ _ _ (by simp)).alloc _ | exact hx1.set | exact hx2.set | exact (hx1.set).alloc _ | exact (hx2.set).alloc _ | exact (hx1.set).other (by omega) | exact (hx2.set).other (by omega) | exact (hx1.other (by omega)).set | exact (hx2.other (by omega)).set)
    case rest =>
      obtain ⟨B19, rfl, rfl, hB, hp19, hq19⟩ := hcut
      obtain ⟨X14, rfl⟩ : ∃ X, X = wc := ⟨_, rfl⟩
      have HL16 := Lib.hid (bstep HL15.out hB)
      have HD16 := Lib.hid (Bxs.cons (HD15.out.below hB) hq19)
      clear hB hmk HL15 HD15 hp19 hq19
      obtain ⟨fx3, fy3⟩ := HD16.out.get (Bw3) nx sx (by simp)
      go_wp2_with fail
      refine (H11.out _).mono ?_
      rintro e w15 ⟨rfl, hb⟩
      have HL17 := Lib.hid (bstep HL16.out hb)
      have HD17 := Lib.hid (HD16.out.below hb)
      clear hb HL16 HD16
      have HL18 := Lib.hid (HL17.out.alloc HL17.out.size (.cells #[.bool nb, .string sb] 23))
      have HD18 := Lib.hid (HD17.out.push' (w15.heap.size) nb sb (by simp))
      clear HL17 HD17
      obtain ⟨fx2, fy2⟩ := HD18.out.get (Bw2) false sr (by simp)
      obtain ⟨fx6, fy6⟩ := HD18.out.get (Bw9) nl sl (by simp)
      obtain ⟨fx0, fy0⟩ := HD18.out.get (w.heap.size) na sa (by simp)
      go_wp2_with fail
      refine (H12.out _).mono ?_
      rintro e w16 ⟨rfl, hb⟩
      have HL19 := Lib.hid (bstep HL18.out hb)
      have HD19 := Lib.hid (HD18.out.below hb)
      clear hb HL18 HD18
      obtain ⟨fx0, fy0⟩ := HD19.out.get (w.heap.size) na sa (by simp)
      obtain ⟨fx7, fy7⟩ := HD19.out.get (B19) nh sh (by simp)
      go_wp2_with fail
      refine (H13.out _).mono ?_
      rintro e w17 ⟨rfl, hb⟩
      have HL20 := Lib.hid (bstep HL19.out hb)
      have HD20 := Lib.hid (HD19.out.below hb)
      clear hb HL19 HD19
      obtain ⟨fx8, fy8⟩ := HD20.out.get (w15.heap.size) nb sb (by simp)
      obtain ⟨fx0, fy0⟩ := HD20.out.get (w.heap.size) na sa (by simp)
      go_wp2_with fail
      refine (H14.out _).mono ?_
      rintro e w18 ⟨rfl, hb⟩
      have HL21 := Lib.hid (bstep HL20.out hb)
      have HD21 := Lib.hid (HD20.out.below hb)
      clear hb HL20 HD20
      go_wp2_with fail
      refine (awake01 _).mono ?_
      rintro e w19 ⟨rfl, hb⟩
      have HL22 := Lib.hid (bstep HL21.out hb)
      have HD22 := Lib.hid (HD21.out.below hb)
      clear hb HL21 HD21
      go_wp2
      go_ret
      exact ⟨rfl, HL22.out⟩)

end Go.Proofs.Gv
