/- The law IntegerDivides, walked. -/
import Derived.Test.YtpnhccpfbeidlaaLawKit
namespace Go.Proofs.Gv
open Go Go.RowKit

set_option maxRecDepth 100000 in
set_option maxHeartbeats 4000000 in
theorem divides_great (na nb : Bool) (sa sb : ByteArray) (ha : sa.size ≤ maxLen) (hb0 : sb.size ≤ maxLen) (hgr : gr [(na, sa), (nb, sb)] = true) (w : World)
    : Calls Try.prog 5 #[.agg #[.bool na, .string sa], .agg #[.bool nb, .string sb]] w fun e w' => e = .returned (.bool true) ∧ Below w.heap.size w w' := by
  have HA := Lib.hid ha
  have HB := Lib.hid hb0
  clear ha hb0
  have q0 : eqI false ⟨#[]⟩ false ⟨#[]⟩ = true := eqI_iff.mpr ⟨rfl, rfl⟩
  go_enter Try.func5, Try.ntmps5
  have HL0 := Lib.hid (Below.refl w.heap.size w)
  have HD0 := Lib.hid (Bxs.nil w)
  have HL1 := Lib.hid (HL0.out.alloc HL0.out.size (.cells #[.bool na, .string sa] 23))
  have HD1 := Lib.hid (HD0.out.push' (w.heap.size) na sa (by simp))
  clear HL0 HD0
  have HL2 := Lib.hid (HL1.out.alloc HL1.out.size (.cells #[.bool nb, .string sb] 23))
  have HD2 := Lib.hid (HD1.out.push' (w.heap.size + 1) nb sb (by simp))
  clear HL1 HD1
  obtain ⟨fx0, fy0⟩ := HD2.out.get (w.heap.size) na sa (by simp)
  obtain ⟨fx1, fy1⟩ := HD2.out.get (w.heap.size + 1) nb sb (by simp)
  go_wp2_with fail
  refine (great2 na sa nb sb _ (w.heap.size + 1 + 1) (by simp) HA.out HB.out).mono ?_
  rintro e w1 ⟨rfl, hb⟩
  have HL3 := Lib.hid (bstep HL2.out hb)
  have HD3 := Lib.hid (HD2.out.below hb)
  clear hb HL2 HD2
  go_wp2_with fail
  refine (awake01 _).mono ?_
  rintro e w2 ⟨rfl, hb⟩
  have HL4 := Lib.hid (bstep HL3.out hb)
  have HD4 := Lib.hid (HD3.out.below hb)
  clear hb HL3 HD3
  go_wp2
  go_ret
  exact ⟨rfl, HL4.out⟩

set_option maxRecDepth 100000 in
set_option maxHeartbeats 4000000 in
theorem divides_zero (na nb : Bool) (sa sb : ByteArray) (ha : sa.size ≤ maxLen) (hb0 : sb.size ≤ maxLen) (hgr : gr [(na, sa), (nb, sb)] = false) (w : World)
    (H1 : ∀ W, Calls Try.prog 21 #[.agg #[.bool na, .string sa], .agg #[.bool nb, .string sb]] W fun e w' => e = .returned (.tuple #[.agg #[.bool false, .string ⟨#[]⟩], .agg #[.bool false, .string ⟨#[]⟩], .int .i64 9]) ∧ Below W.heap.size W w')
    (H2 : ∀ W, Calls Try.prog 29 #[.agg #[.bool nb, .string sb], .agg #[.bool false, .string ⟨#[]⟩]] W fun e w' => e = .returned (.int .i64 0) ∧ Below W.heap.size W w')
    : Calls Try.prog 5 #[.agg #[.bool na, .string sa], .agg #[.bool nb, .string sb]] w fun e w' => e = .returned (.bool true) ∧ Below w.heap.size w w' := by
  replace H1 := Lib.hid H1
  replace H2 := Lib.hid H2
  have HA := Lib.hid ha
  have HB := Lib.hid hb0
  clear ha hb0
  have q0 : eqI false ⟨#[]⟩ false ⟨#[]⟩ = true := eqI_iff.mpr ⟨rfl, rfl⟩
  go_enter Try.func5, Try.ntmps5
  have HL0 := Lib.hid (Below.refl w.heap.size w)
  have HD0 := Lib.hid (Bxs.nil w)
  have HL1 := Lib.hid (HL0.out.alloc HL0.out.size (.cells #[.bool na, .string sa] 23))
  have HD1 := Lib.hid (HD0.out.push' (w.heap.size) na sa (by simp))
  clear HL0 HD0
  have HL2 := Lib.hid (HL1.out.alloc HL1.out.size (.cells #[.bool nb, .string sb] 23))
  have HD2 := Lib.hid (HD1.out.push' (w.heap.size + 1) nb sb (by simp))
  clear HL1 HD1
  obtain ⟨fx0, fy0⟩ := HD2.out.get (w.heap.size) na sa (by simp)
  obtain ⟨fx1, fy1⟩ := HD2.out.get (w.heap.size + 1) nb sb (by simp)
  go_wp2_with fail
  refine (great2 na sa nb sb _ (w.heap.size + 1 + 1) (by simp) HA.out HB.out).mono ?_
  rintro e w1 ⟨rfl, hb⟩
  have HL3 := Lib.hid (bstep HL2.out hb)
  have HD3 := Lib.hid (HD2.out.below hb)
  clear hb HL2 HD2
  obtain ⟨fx0, fy0⟩ := HD3.out.get (w.heap.size) na sa (by simp)
  obtain ⟨fx1, fy1⟩ := HD3.out.get (w.heap.size + 1) nb sb (by simp)
  go_wp2_with fail
  refine (H1.out _).mono ?_
  rintro e w2 ⟨rfl, hb⟩
  have HL4 := Lib.hid (bstep HL3.out hb)
  have HD4 := Lib.hid (HD3.out.below hb)
  clear hb HL3 HD3
  have HL5 := Lib.hid (HL4.out.alloc HL4.out.size (.cells #[.bool false, .string ⟨#[]⟩] 23))
  have HD5 := Lib.hid (HD4.out.push' (w2.heap.size) false ⟨#[]⟩ (by simp))
  clear HL4 HD4
  have HL6 := Lib.hid (HL5.out.alloc HL5.out.size (.cells #[.bool false, .string ⟨#[]⟩] 23))
  have HD6 := Lib.hid (HD5.out.push' (w2.heap.size + 1) false ⟨#[]⟩ (by simp))
  clear HL5 HD5
  have HL7 := Lib.hid (HL6.out.alloc HL6.out.size (.cells #[.bool false, .string ⟨#[]⟩] 23))
  have HD7 := Lib.hid (HD6.out.push' (w2.heap.size + 1 + 1) false ⟨#[]⟩ (by simp))
  clear HL6 HD6
  obtain ⟨fx1, fy1⟩ := HD7.out.get (w.heap.size + 1) nb sb (by simp)
  obtain ⟨fx4, fy4⟩ := HD7.out.get (w2.heap.size + 1 + 1) false ⟨#[]⟩ (by simp)
  go_wp2_with fail
  refine (H2.out _).mono ?_
  rintro e w3 ⟨rfl, hb⟩
  have HL8 := Lib.hid (bstep HL7.out hb)
  have HD8 := Lib.hid (HD7.out.below hb)
  clear hb HL7 HD7
  obtain ⟨fx2, fy2⟩ := HD8.out.get (w2.heap.size) false ⟨#[]⟩ (by simp)
  obtain ⟨fx4, fy4⟩ := HD8.out.get (w2.heap.size + 1 + 1) false ⟨#[]⟩ (by simp)
  obtain ⟨fx3, fy3⟩ := HD8.out.get (w2.heap.size + 1) false ⟨#[]⟩ (by simp)
  obtain ⟨fx4, fy4⟩ := HD8.out.get (w2.heap.size + 1 + 1) false ⟨#[]⟩ (by simp)
  go_wp2_with fail
  refine (awake01 _).mono ?_
  rintro e w4 ⟨rfl, hb⟩
  have HL9 := Lib.hid (bstep HL8.out hb)
  have HD9 := Lib.hid (HD8.out.below hb)
  clear hb HL8 HD8
  go_wp2
  go_ret
  exact ⟨rfl, HL9.out⟩

set_option maxRecDepth 100000 in
set_option maxHeartbeats 4000000 in
theorem divides_pos (na nb nm nq nr nt : Bool) (sa sb sm sq sr st : ByteArray) (ha : sa.size ≤ maxLen) (hb0 : sb.size ≤ maxLen) (hgr : gr [(na, sa), (nb, sb)] = false) (c1 : Int) (t1 : decide (0 ≤ c1) = true) (w : World)
    (H1 : ∀ W, Calls Try.prog 21 #[.agg #[.bool na, .string sa], .agg #[.bool nb, .string sb]] W fun e w' => e = .returned (.tuple #[.agg #[.bool nq, .string sq], .agg #[.bool nr, .string sr], .int .i64 0]) ∧ Below W.heap.size W w')
    (H2 : ∀ W, Calls Try.prog 29 #[.agg #[.bool nb, .string sb], .agg #[.bool false, .string ⟨#[]⟩]] W fun e w' => e = .returned (.int .i64 1) ∧ Below W.heap.size W w')
    (H3 : ∀ W, Calls Try.prog 29 #[.agg #[.bool nr, .string sr], .agg #[.bool false, .string ⟨#[]⟩]] W fun e w' => e = .returned (.int .i64 c1) ∧ Below W.heap.size W w')
    (H4 : ∀ W, Calls Try.prog 29 #[.agg #[.bool nr, .string sr], .agg #[.bool nb, .string sb]] W fun e w' => e = .returned (.int .i64 (-1)) ∧ Below W.heap.size W w')
    (H5 : ∀ W, Calls Try.prog 18 #[.agg #[.bool nq, .string sq], .agg #[.bool nb, .string sb]] W fun e w' => e = .returned (.agg #[.bool nm, .string sm]) ∧ Below W.heap.size W w')
    (H6 : ∀ W, Calls Try.prog 14 #[.agg #[.bool nm, .string sm], .agg #[.bool nr, .string sr]] W fun e w' => e = .returned (.agg #[.bool nt, .string st]) ∧ Below W.heap.size W w')
    (H7 : ∀ W, Calls Try.prog 29 #[.agg #[.bool nt, .string st], .agg #[.bool na, .string sa]] W fun e w' => e = .returned (.int .i64 0) ∧ Below W.heap.size W w')
    : Calls Try.prog 5 #[.agg #[.bool na, .string sa], .agg #[.bool nb, .string sb]] w fun e w' => e = .returned (.bool true) ∧ Below w.heap.size w w' := by
  replace H1 := Lib.hid H1
  replace H2 := Lib.hid H2
  replace H3 := Lib.hid H3
  replace H4 := Lib.hid H4
  replace H5 := Lib.hid H5
  replace H6 := Lib.hid H6
  replace H7 := Lib.hid H7
  have HA := Lib.hid ha
  have HB := Lib.hid hb0
  clear ha hb0
  have q0 : eqI false ⟨#[]⟩ false ⟨#[]⟩ = true := eqI_iff.mpr ⟨rfl, rfl⟩
  go_enter Try.func5, Try.ntmps5
  have HL0 := Lib.hid (Below.refl w.heap.size w)
  have HD0 := Lib.hid (Bxs.nil w)
  have HL1 := Lib.hid (HL0.out.alloc HL0.out.size (.cells #[.bool na, .string sa] 23))
  have HD1 := Lib.hid (HD0.out.push' (w.heap.size) na sa (by simp))
  clear HL0 HD0
  have HL2 := Lib.hid (HL1.out.alloc HL1.out.size (.cells #[.bool nb, .string sb] 23))
  have HD2 := Lib.hid (HD1.out.push' (w.heap.size + 1) nb sb (by simp))
  clear HL1 HD1
  obtain ⟨fx0, fy0⟩ := HD2.out.get (w.heap.size) na sa (by simp)
  obtain ⟨fx1, fy1⟩ := HD2.out.get (w.heap.size + 1) nb sb (by simp)
  go_wp2_with fail
  refine (great2 na sa nb sb _ (w.heap.size + 1 + 1) (by simp) HA.out HB.out).mono ?_
  rintro e w1 ⟨rfl, hb⟩
  have HL3 := Lib.hid (bstep HL2.out hb)
  have HD3 := Lib.hid (HD2.out.below hb)
  clear hb HL2 HD2
  obtain ⟨fx0, fy0⟩ := HD3.out.get (w.heap.size) na sa (by simp)
  obtain ⟨fx1, fy1⟩ := HD3.out.get (w.heap.size + 1) nb sb (by simp)
  go_wp2_with fail
  refine (H1.out _).mono ?_
  rintro e w2 ⟨rfl, hb⟩
  have HL4 := Lib.hid (bstep HL3.out hb)
  have HD4 := Lib.hid (HD3.out.below hb)
  clear hb HL3 HD3
  have HL5 := Lib.hid (HL4.out.alloc HL4.out.size (.cells #[.bool nq, .string sq] 23))
  have HD5 := Lib.hid (HD4.out.push' (w2.heap.size) nq sq (by simp))
  clear HL4 HD4
  have HL6 := Lib.hid (HL5.out.alloc HL5.out.size (.cells #[.bool nr, .string sr] 23))
  have HD6 := Lib.hid (HD5.out.push' (w2.heap.size + 1) nr sr (by simp))
  clear HL5 HD5
  have HL7 := Lib.hid (HL6.out.alloc HL6.out.size (.cells #[.bool false, .string ⟨#[]⟩] 23))
  have HD7 := Lib.hid (HD6.out.push' (w2.heap.size + 1 + 1) false ⟨#[]⟩ (by simp))
  clear HL6 HD6
  go_upto_region 7 with fail
  obtain ⟨Bw2, hB⟩ : ∃ B, w2.heap.size = B := ⟨_, rfl⟩
  rw [hB] at HD7 ⊢
  clear hB
  obtain ⟨W3, hW⟩ : ∃ W, (((w2.alloc (.cells #[.bool nq, .string sq] 23)).alloc (.cells #[.bool nr, .string sr] 23)).alloc (.cells #[.bool false, .string ⟨#[]⟩] 23)) = W := ⟨_, rfl⟩
  rw [hW] at HD7 HL7 ⊢
  clear hW
  have hmk : ∀ w', Below W3.heap.size W3 w' → Below W3.heap.size W3 w' ∧ w'.cell? ⟨w.heap.size + 1, 0, none⟩ = some (.bool nb) ∧ w'.cell? ⟨w.heap.size + 1, 1, none⟩ = some (.string sb) ∧ w'.cell? ⟨Bw2 + 1 + 1, 0, none⟩ = some (.bool false) ∧ w'.cell? ⟨Bw2 + 1 + 1, 1, none⟩ = some (.string ⟨#[]⟩) ∧ True := fun w' h => by
    have hd := HD7.out.below h
    obtain ⟨x1, y1⟩ := hd.get (w.heap.size + 1) nb sb (by simp)
    obtain ⟨x4, y4⟩ := hd.get (Bw2 + 1 + 1) false ⟨#[]⟩ (by simp)
    exact ⟨h, x1, y1, x4, y4, trivial⟩
  replace hmk := Lib.hid hmk
  go_cut [9, 10] (fun s9 s10 wx => ∃ B10 : Nat, s9 = .int .i64 1 ∧ s10 = .pointer (some ⟨B10, 0, none⟩) ∧ Below W3.heap.size W3 wx ∧ W3.heap.size ≤ B10 ∧ Bx wx B10 nb sb)
  case first =>
    obtain ⟨-, fx1, fy1, fx4, fy4, -⟩ := hmk.out _ (Below.refl _ W3)
    have tk0 := Lib.hid trivial
    have hs0 : W3.heap.size ≤ W3.heap.size := Nat.le_refl _
    go_region_held3 (fun w' => Below W3.heap.size W3 w' ∧ w'.cell? ⟨w.heap.size + 1, 0, none⟩ = some (.bool nb) ∧ w'.cell? ⟨w.heap.size + 1, 1, none⟩ = some (.string sb) ∧ w'.cell? ⟨Bw2 + 1 + 1, 0, none⟩ = some (.bool false) ∧ w'.cell? ⟨Bw2 + 1 + 1, 1, none⟩ = some (.string ⟨#[]⟩) ∧ True) ((refine hmk.out _ ?_; first | exact ⟨rfl, rfl, rfl, Nat.le_refl _, fun _ _ => rfl⟩ | exact bstep (‹Below W3.heap.size W3 _ ∧ _›).1 hb | exact (‹Below W3.heap.size W3 _ ∧ _›).1.alloc (‹Below W3.heap.size W3 _ ∧ _›).1.size _ | exact below_re _ (‹Below W3.heap.size W3 _ ∧ _›).1 (by simp; try omega) | exact below_re _ (‹Below W3.heap.size W3 _ ∧ _›).1 (by omega) | exact below_re2 _ (‹Below W3.heap.size W3 _ ∧ _›).1 (by omega) | exact ((‹Below W3.heap.size W3 _ ∧ _›).1.setCell (p := ⟨_, 0, none⟩) (by simp; try omega) _).setCell (p := ⟨_, 1, none⟩) (by simp; try omega) _ | exact ((‹Below W3.heap.size W3 _ ∧ _›).1.setCell (p := ⟨_, 0, none⟩) (by omega) _).setCell (p := ⟨_, 1, none⟩) (by omega) _)) (first
      | (go_at_call 29; have hz := tk0.out; clear hz; refine (H2.out _).mono ?_; rintro e w4 ⟨rfl, hb⟩; have tk1 := Lib.hid trivial; clear tk0; (have hs1 : W3.heap.size ≤ w4.heap.size := (bstep (‹Below W3.heap.size W3 _ ∧ _›).1 hb).size); (first | replace hx1 := hx1.below hb | replace hx1 := (hx1.alloc _).below hb | skip); (first | replace hx2 := hx2.below hb | skip); (first | (have hxx := hx1; clear hxx; have hx2 := (Bx.new _ _ _ _ rfl).below hb) | (have hxx := hx1; clear hxx; skip) | (have hx1 := ((Bx.new _ _ _ _ rfl).alloc _).below hb; have hx2 := (Bx.new _ _ _ _ rfl).below hb; simp only [World.size_alloc] at hx2) | have hx1 := (Bx.new _ _ _ _ rfl).below hb | skip); (first | (obtain ⟨hxa1, hxb1, hxc1, hxd1, hxe1⟩ := (id hx1)) | skip); (first | (obtain ⟨hxa2, hxb2, hxc2, hxd2, hxe2⟩ := (id hx2)) | skip)))
    all_goals (go_wp2_with fail; go_meet)
    all_goals (refine ⟨_, rfl, rfl, (‹Below W3.heap.size W3 _ ∧ _›).1, ?_, ?_⟩)
    all_goals (first | omega | (simp; done) | (simp; omega) | exact Bx.new _ _ _ _ (by simp) | exact (Bx.new _ _ _ _ (by simp)).alloc _ | exact hx1.set | exact hx2.set | exact (hx1.set).alloc _ | exact (hx2.set).alloc _ | exact (hx1.set).other (by omega) | exact (hx2.set).other (by omega) | exact (hx1.other (by omega)).set | exact (hx2.other (by omega)).set)
  case rest =>
    obtain ⟨B10, rfl, rfl, hB, hp10, hq10⟩ := hcut
    obtain ⟨X5, rfl⟩ : ∃ X, X = wc := ⟨_, rfl⟩
    have HL8 := Lib.hid (bstep HL7.out hB)
    have HD8 := Lib.hid (Bxs.cons (HD7.out.below hB) hq10)
    clear hB hmk HL7 HD7 hp10 hq10
    obtain ⟨fx0, fy0⟩ := HD8.out.get (w.heap.size) na sa (by simp)
    obtain ⟨fx1, fy1⟩ := HD8.out.get (w.heap.size + 1) nb sb (by simp)
    go_wp2_with fail
    refine (H1.out _).mono ?_
    rintro e w6 ⟨rfl, hb⟩
    have HL9 := Lib.hid (bstep HL8.out hb)
    have HD9 := Lib.hid (HD8.out.below hb)
    clear hb HL8 HD8
    have HL10 := Lib.hid (HL9.out.alloc HL9.out.size (.cells #[.bool nq, .string sq] 23))
    have HD10 := Lib.hid (HD9.out.push' (w6.heap.size) nq sq (by simp))
    clear HL9 HD9
    have HL11 := Lib.hid (HL10.out.alloc HL10.out.size (.cells #[.bool nr, .string sr] 23))
    have HD11 := Lib.hid (HD10.out.push' (w6.heap.size + 1) nr sr (by simp))
    clear HL10 HD10
    go_wp2_with fail
    obtain ⟨Bw6, hB⟩ : ∃ B, w6.heap.size = B := ⟨_, rfl⟩
    rw [hB] at HD11 ⊢
    clear hB
    obtain ⟨W7, hW⟩ : ∃ W, ((w6.alloc (.cells #[.bool nq, .string sq] 23)).alloc (.cells #[.bool nr, .string sr] 23)) = W := ⟨_, rfl⟩
    rw [hW] at HD11 HL11 ⊢
    clear hW
    have hmk : ∀ w', Below W7.heap.size W7 w' → Below W7.heap.size W7 w' ∧ w'.cell? ⟨Bw2 + 1, 0, none⟩ = some (.bool nr) ∧ w'.cell? ⟨Bw2 + 1, 1, none⟩ = some (.string sr) ∧ w'.cell? ⟨Bw2 + 1 + 1, 0, none⟩ = some (.bool false) ∧ w'.cell? ⟨Bw2 + 1 + 1, 1, none⟩ = some (.string ⟨#[]⟩) ∧ w'.cell? ⟨B10, 0, none⟩ = some (.bool nb) ∧ w'.cell? ⟨B10, 1, none⟩ = some (.string sb) ∧ w'.cell? ⟨Bw2, 0, none⟩ = some (.bool nq) ∧ w'.cell? ⟨Bw2, 1, none⟩ = some (.string sq) ∧ w'.cell? ⟨w.heap.size + 1, 0, none⟩ = some (.bool nb) ∧ w'.cell? ⟨w.heap.size + 1, 1, none⟩ = some (.string sb) ∧ w'.cell? ⟨Bw6 + 1, 0, none⟩ = some (.bool nr) ∧ w'.cell? ⟨Bw6 + 1, 1, none⟩ = some (.string sr) ∧ w'.cell? ⟨w.heap.size, 0, none⟩ = some (.bool na) ∧ w'.cell? ⟨w.heap.size, 1, none⟩ = some (.string sa) ∧ True := fun w' h => by
      have hd := HD11.out.below h
      obtain ⟨x3, y3⟩ := hd.get (Bw2 + 1) nr sr (by simp)
      obtain ⟨x4, y4⟩ := hd.get (Bw2 + 1 + 1) false ⟨#[]⟩ (by simp)
      obtain ⟨x5, y5⟩ := hd.get (B10) nb sb (by simp)
      obtain ⟨x2, y2⟩ := hd.get (Bw2) nq sq (by simp)
      obtain ⟨x1, y1⟩ := hd.get (w.heap.size + 1) nb sb (by simp)
      obtain ⟨x7, y7⟩ := hd.get (Bw6 + 1) nr sr (by simp)
      obtain ⟨x0, y0⟩ := hd.get (w.heap.size) na sa (by simp)
      exact ⟨h, x3, y3, x4, y4, x5, y5, x2, y2, x1, y1, x7, y7, x0, y0, trivial⟩
    replace hmk := Lib.hid hmk
    obtain ⟨-, fx3, fy3, fx4, fy4, fx5, fy5, fx2, fy2, fx1, fy1, fx7, fy7, fx0, fy0, -⟩ := hmk.out _ (Below.refl _ W7)
    have tk0 := Lib.hid trivial
    have hs0 : W7.heap.size ≤ W7.heap.size := Nat.le_refl _
    go_region_held3 (fun w' => Below W7.heap.size W7 w' ∧ w'.cell? ⟨Bw2 + 1, 0, none⟩ = some (.bool nr) ∧ w'.cell? ⟨Bw2 + 1, 1, none⟩ = some (.string sr) ∧ w'.cell? ⟨Bw2 + 1 + 1, 0, none⟩ = some (.bool false) ∧ w'.cell? ⟨Bw2 + 1 + 1, 1, none⟩ = some (.string ⟨#[]⟩) ∧ w'.cell? ⟨B10, 0, none⟩ = some (.bool nb) ∧ w'.cell? ⟨B10, 1, none⟩ = some (.string sb) ∧ w'.cell? ⟨Bw2, 0, none⟩ = some (.bool nq) ∧ w'.cell? ⟨Bw2, 1, none⟩ = some (.string sq) ∧ w'.cell? ⟨w.heap.size + 1, 0, none⟩ = some (.bool nb) ∧ w'.cell? ⟨w.heap.size + 1, 1, none⟩ = some (.string sb) ∧ w'.cell? ⟨Bw6 + 1, 0, none⟩ = some (.bool nr) ∧ w'.cell? ⟨Bw6 + 1, 1, none⟩ = some (.string sr) ∧ w'.cell? ⟨w.heap.size, 0, none⟩ = some (.bool na) ∧ w'.cell? ⟨w.heap.size, 1, none⟩ = some (.string sa) ∧ True) ((refine hmk.out _ ?_; first | exact ⟨rfl, rfl, rfl, Nat.le_refl _, fun _ _ => rfl⟩ | exact bstep (‹Below W7.heap.size W7 _ ∧ _›).1 hb | exact (‹Below W7.heap.size W7 _ ∧ _›).1.alloc (‹Below W7.heap.size W7 _ ∧ _›).1.size _ | exact below_re _ (‹Below W7.heap.size W7 _ ∧ _›).1 (by simp; try omega) | exact below_re _ (‹Below W7.heap.size W7 _ ∧ _›).1 (by omega) | exact below_re2 _ (‹Below W7.heap.size W7 _ ∧ _›).1 (by omega) | exact ((‹Below W7.heap.size W7 _ ∧ _›).1.setCell (p := ⟨_, 0, none⟩) (by simp; try omega) _).setCell (p := ⟨_, 1, none⟩) (by simp; try omega) _ | exact ((‹Below W7.heap.size W7 _ ∧ _›).1.setCell (p := ⟨_, 0, none⟩) (by omega) _).setCell (p := ⟨_, 1, none⟩) (by omega) _)) (first
      | (go_at_call 29; have hz := tk0.out; clear hz; refine (H3.out _).mono ?_; rintro e w8 ⟨rfl, hb⟩; have tk1 := Lib.hid trivial; clear tk0)
      | (go_at_call 29; have hz := tk1.out; clear hz; refine (H4.out _).mono ?_; rintro e w9 ⟨rfl, hb⟩; have tk2 := Lib.hid trivial; clear tk1)
      | (go_at_call 18; have hz := tk2.out; clear hz; refine (H5.out _).mono ?_; rintro e w10 ⟨rfl, hb⟩; have tk3 := Lib.hid trivial; clear tk2)
      | (go_at_call 14; have hz := tk3.out; clear hz; refine (H6.out _).mono ?_; rintro e w11 ⟨rfl, hb⟩; have tk4 := Lib.hid trivial; clear tk3)
      | (go_at_call 29; have hz := tk4.out; clear hz; refine (H7.out _).mono ?_; rintro e w12 ⟨rfl, hb⟩; have tk5 := Lib.hid trivial; clear tk4)
      | (go_at_call 13; have hz := tk5.out; clear hz; refine (awake01 _).mono ?_; rintro e w13 ⟨rfl, hb⟩; have tk6 := Lib.hid trivial; clear tk5))
    all_goals (
      have hB := (‹Below W7.heap.size W7 _ ∧ _›).1
      have HL12 := Lib.hid (bstep HL11.out hB)
      have HD12 := Lib.hid (HD11.out.below hB)
      clear hB hmk HL11 HD11
      go_wp2
      go_ret
      exact ⟨rfl, HL12.out⟩)

set_option maxRecDepth 100000 in
set_option maxHeartbeats 4000000 in
theorem divides_neg (na nb nm nmb nmr nq nr nt : Bool) (sa sb sm smb smr sq sr st : ByteArray) (ha : sa.size ≤ maxLen) (hb0 : sb.size ≤ maxLen) (hgr : gr [(na, sa), (nb, sb)] = false) (c1 : Int) (t1 : decide (0 ≤ c1) = true) (w : World)
    (H1 : ∀ W, Calls Try.prog 21 #[.agg #[.bool na, .string sa], .agg #[.bool nb, .string sb]] W fun e w' => e = .returned (.tuple #[.agg #[.bool nq, .string sq], .agg #[.bool nr, .string sr], .int .i64 0]) ∧ Below W.heap.size W w')
    (H2 : ∀ W, Calls Try.prog 29 #[.agg #[.bool nb, .string sb], .agg #[.bool false, .string ⟨#[]⟩]] W fun e w' => e = .returned (.int .i64 (-1)) ∧ Below W.heap.size W w')
    (H3 : ∀ W, Calls Try.prog 30 #[.agg #[.bool nb, .string sb]] W fun e w' => e = .returned (.agg #[.bool nmb, .string smb]) ∧ Below W.heap.size W w')
    (H4 : ∀ W, Calls Try.prog 30 #[.agg #[.bool nr, .string sr]] W fun e w' => e = .returned (.agg #[.bool nmr, .string smr]) ∧ Below W.heap.size W w')
    (H5 : ∀ W, Calls Try.prog 29 #[.agg #[.bool nmr, .string smr], .agg #[.bool false, .string ⟨#[]⟩]] W fun e w' => e = .returned (.int .i64 c1) ∧ Below W.heap.size W w')
    (H6 : ∀ W, Calls Try.prog 29 #[.agg #[.bool nmr, .string smr], .agg #[.bool nmb, .string smb]] W fun e w' => e = .returned (.int .i64 (-1)) ∧ Below W.heap.size W w')
    (H7 : ∀ W, Calls Try.prog 18 #[.agg #[.bool nq, .string sq], .agg #[.bool nb, .string sb]] W fun e w' => e = .returned (.agg #[.bool nm, .string sm]) ∧ Below W.heap.size W w')
    (H8 : ∀ W, Calls Try.prog 14 #[.agg #[.bool nm, .string sm], .agg #[.bool nr, .string sr]] W fun e w' => e = .returned (.agg #[.bool nt, .string st]) ∧ Below W.heap.size W w')
    (H9 : ∀ W, Calls Try.prog 29 #[.agg #[.bool nt, .string st], .agg #[.bool na, .string sa]] W fun e w' => e = .returned (.int .i64 0) ∧ Below W.heap.size W w')
    : Calls Try.prog 5 #[.agg #[.bool na, .string sa], .agg #[.bool nb, .string sb]] w fun e w' => e = .returned (.bool true) ∧ Below w.heap.size w w' := by
  replace H1 := Lib.hid H1
  replace H2 := Lib.hid H2
  replace H3 := Lib.hid H3
  replace H4 := Lib.hid H4
  replace H5 := Lib.hid H5
  replace H6 := Lib.hid H6
  replace H7 := Lib.hid H7
  replace H8 := Lib.hid H8
  replace H9 := Lib.hid H9
  have HA := Lib.hid ha
  have HB := Lib.hid hb0
  clear ha hb0
  have q0 : eqI false ⟨#[]⟩ false ⟨#[]⟩ = true := eqI_iff.mpr ⟨rfl, rfl⟩
  go_enter Try.func5, Try.ntmps5
  have HL0 := Lib.hid (Below.refl w.heap.size w)
  have HD0 := Lib.hid (Bxs.nil w)
  have HL1 := Lib.hid (HL0.out.alloc HL0.out.size (.cells #[.bool na, .string sa] 23))
  have HD1 := Lib.hid (HD0.out.push' (w.heap.size) na sa (by simp))
  clear HL0 HD0
  have HL2 := Lib.hid (HL1.out.alloc HL1.out.size (.cells #[.bool nb, .string sb] 23))
  have HD2 := Lib.hid (HD1.out.push' (w.heap.size + 1) nb sb (by simp))
  clear HL1 HD1
  obtain ⟨fx0, fy0⟩ := HD2.out.get (w.heap.size) na sa (by simp)
  obtain ⟨fx1, fy1⟩ := HD2.out.get (w.heap.size + 1) nb sb (by simp)
  go_wp2_with fail
  refine (great2 na sa nb sb _ (w.heap.size + 1 + 1) (by simp) HA.out HB.out).mono ?_
  rintro e w1 ⟨rfl, hb⟩
  have HL3 := Lib.hid (bstep HL2.out hb)
  have HD3 := Lib.hid (HD2.out.below hb)
  clear hb HL2 HD2
  obtain ⟨fx0, fy0⟩ := HD3.out.get (w.heap.size) na sa (by simp)
  obtain ⟨fx1, fy1⟩ := HD3.out.get (w.heap.size + 1) nb sb (by simp)
  go_wp2_with fail
  refine (H1.out _).mono ?_
  rintro e w2 ⟨rfl, hb⟩
  have HL4 := Lib.hid (bstep HL3.out hb)
  have HD4 := Lib.hid (HD3.out.below hb)
  clear hb HL3 HD3
  have hne2_5 : w.heap.size < w2.heap.size := by have := (HD4.out (w.heap.size, na, sa) (by simp)).lt; first | exact this | (simp at this; omega)
  have hne3_5 : w.heap.size + 1 < w2.heap.size := by have := (HD4.out (w.heap.size + 1, nb, sb) (by simp)).lt; first | exact this | (simp at this; omega)
  have HL5 := Lib.hid (HL4.out.alloc HL4.out.size (.cells #[.bool nq, .string sq] 23))
  have HD5 := Lib.hid (HD4.out.push' (w2.heap.size) nq sq (by simp))
  clear HL4 HD4
  have hne2_6 : w.heap.size < w2.heap.size + 1 := by have := (HD5.out (w.heap.size, na, sa) (by simp)).lt; first | exact this | (simp at this; omega)
  have hne3_6 : w.heap.size + 1 < w2.heap.size + 1 := by have := (HD5.out (w.heap.size + 1, nb, sb) (by simp)).lt; first | exact this | (simp at this; omega)
  have hne5_6 : w2.heap.size < w2.heap.size + 1 := by have := (HD5.out (w2.heap.size, nq, sq) (by simp)).lt; first | exact this | (simp at this; omega)
  have HL6 := Lib.hid (HL5.out.alloc HL5.out.size (.cells #[.bool nr, .string sr] 23))
  have HD6 := Lib.hid (HD5.out.push' (w2.heap.size + 1) nr sr (by simp))
  clear HL5 HD5
  have hne2_8 : w.heap.size < w2.heap.size + 1 + 1 := by have := (HD6.out (w.heap.size, na, sa) (by simp)).lt; first | exact this | (simp at this; omega)
  have hne3_8 : w.heap.size + 1 < w2.heap.size + 1 + 1 := by have := (HD6.out (w.heap.size + 1, nb, sb) (by simp)).lt; first | exact this | (simp at this; omega)
  have hne5_8 : w2.heap.size < w2.heap.size + 1 + 1 := by have := (HD6.out (w2.heap.size, nq, sq) (by simp)).lt; first | exact this | (simp at this; omega)
  have hne6_8 : w2.heap.size + 1 < w2.heap.size + 1 + 1 := by have := (HD6.out (w2.heap.size + 1, nr, sr) (by simp)).lt; first | exact this | (simp at this; omega)
  have HL7 := Lib.hid (HL6.out.alloc HL6.out.size (.cells #[.bool false, .string ⟨#[]⟩] 23))
  have HD7 := Lib.hid (HD6.out.push' (w2.heap.size + 1 + 1) false ⟨#[]⟩ (by simp))
  clear HL6 HD6
  go_upto_region 7 with fail
  obtain ⟨Bw2, hB⟩ : ∃ B, w2.heap.size = B := ⟨_, rfl⟩
  rw [hB] at HD7 ⊢
  try rw [hB] at hne2_5
  try rw [hB] at hne3_5
  try rw [hB] at hne2_6
  try rw [hB] at hne3_6
  try rw [hB] at hne5_6
  try rw [hB] at hne2_8
  try rw [hB] at hne3_8
  try rw [hB] at hne5_8
  try rw [hB] at hne6_8
  clear hB
  obtain ⟨W3, hW⟩ : ∃ W, (((w2.alloc (.cells #[.bool nq, .string sq] 23)).alloc (.cells #[.bool nr, .string sr] 23)).alloc (.cells #[.bool false, .string ⟨#[]⟩] 23)) = W := ⟨_, rfl⟩
  rw [hW] at HD7 HL7 ⊢
  clear hW
  have hmk : ∀ w', Below W3.heap.size W3 w' → Below W3.heap.size W3 w' ∧ w'.cell? ⟨w.heap.size + 1, 0, none⟩ = some (.bool nb) ∧ w'.cell? ⟨w.heap.size + 1, 1, none⟩ = some (.string sb) ∧ w'.cell? ⟨Bw2 + 1 + 1, 0, none⟩ = some (.bool false) ∧ w'.cell? ⟨Bw2 + 1 + 1, 1, none⟩ = some (.string ⟨#[]⟩) ∧ True := fun w' h => by
    have hd := HD7.out.below h
    obtain ⟨x1, y1⟩ := hd.get (w.heap.size + 1) nb sb (by simp)
    obtain ⟨x4, y4⟩ := hd.get (Bw2 + 1 + 1) false ⟨#[]⟩ (by simp)
    exact ⟨h, x1, y1, x4, y4, trivial⟩
  replace hmk := Lib.hid hmk
  go_cut [9, 10] (fun s9 s10 wx => ∃ B10 : Nat, s9 = .int .i64 (-1) ∧ s10 = .pointer (some ⟨B10, 0, none⟩) ∧ Below W3.heap.size W3 wx ∧ W3.heap.size ≤ B10 ∧ Bx wx B10 nb sb)
  case first =>
    obtain ⟨-, fx1, fy1, fx4, fy4, -⟩ := hmk.out _ (Below.refl _ W3)
    have tk0 := Lib.hid trivial
    have hs0 : W3.heap.size ≤ W3.heap.size := Nat.le_refl _
    go_region_held3 (fun w' => Below W3.heap.size W3 w' ∧ w'.cell? ⟨w.heap.size + 1, 0, none⟩ = some (.bool nb) ∧ w'.cell? ⟨w.heap.size + 1, 1, none⟩ = some (.string sb) ∧ w'.cell? ⟨Bw2 + 1 + 1, 0, none⟩ = some (.bool false) ∧ w'.cell? ⟨Bw2 + 1 + 1, 1, none⟩ = some (.string ⟨#[]⟩) ∧ True) ((refine hmk.out _ ?_; first | exact ⟨rfl, rfl, rfl, Nat.le_refl _, fun _ _ => rfl⟩ | exact bstep (‹Below W3.heap.size W3 _ ∧ _›).1 hb | exact (‹Below W3.heap.size W3 _ ∧ _›).1.alloc (‹Below W3.heap.size W3 _ ∧ _›).1.size _ | exact below_re _ (‹Below W3.heap.size W3 _ ∧ _›).1 (by simp; try omega) | exact below_re _ (‹Below W3.heap.size W3 _ ∧ _›).1 (by omega) | exact below_re2 _ (‹Below W3.heap.size W3 _ ∧ _›).1 (by omega) | exact ((‹Below W3.heap.size W3 _ ∧ _›).1.setCell (p := ⟨_, 0, none⟩) (by simp; try omega) _).setCell (p := ⟨_, 1, none⟩) (by simp; try omega) _ | exact ((‹Below W3.heap.size W3 _ ∧ _›).1.setCell (p := ⟨_, 0, none⟩) (by omega) _).setCell (p := ⟨_, 1, none⟩) (by omega) _)) (first
      | (go_at_call 29; have hz := tk0.out; clear hz; refine (H2.out _).mono ?_; rintro e w4 ⟨rfl, hb⟩; have tk1 := Lib.hid trivial; clear tk0; (have hs1 : W3.heap.size ≤ w4.heap.size := (bstep (‹Below W3.heap.size W3 _ ∧ _›).1 hb).size); (first | replace hx1 := hx1.below hb | replace hx1 := (hx1.alloc _).below hb | skip); (first | replace hx2 := hx2.below hb | skip); (first | (have hxx := hx1; clear hxx; have hx2 := (Bx.new _ _ _ _ rfl).below hb) | (have hxx := hx1; clear hxx; skip) | (have hx1 := ((Bx.new _ _ _ _ rfl).alloc _).below hb; have hx2 := (Bx.new _ _ _ _ rfl).below hb; simp only [World.size_alloc] at hx2) | have hx1 := (Bx.new _ _ _ _ rfl).below hb | skip); (first | (obtain ⟨hxa1, hxb1, hxc1, hxd1, hxe1⟩ := (id hx1)) | skip); (first | (obtain ⟨hxa2, hxb2, hxc2, hxd2, hxe2⟩ := (id hx2)) | skip)))
    all_goals (go_wp2_with fail; go_meet)
    all_goals (refine ⟨_, rfl, rfl, (‹Below W3.heap.size W3 _ ∧ _›).1, ?_, ?_⟩)
    all_goals (first | omega | (simp; done) | (simp; omega) | exact Bx.new _ _ _ _ (by simp) | exact (Bx.new _ _ _ _ (by simp)).alloc _ | exact hx1.set | exact hx2.set | exact (hx1.set).alloc _ | exact (hx2.set).alloc _ | exact (hx1.set).other (by omega) | exact (hx2.set).other (by omega) | exact (hx1.other (by omega)).set | exact (hx2.other (by omega)).set)
  case rest =>
    obtain ⟨B10, rfl, rfl, hB, hp10, hq10⟩ := hcut
    obtain ⟨X5, rfl⟩ : ∃ X, X = wc := ⟨_, rfl⟩
    have HL8 := Lib.hid (bstep HL7.out hB)
    have HD8 := Lib.hid (Bxs.cons (HD7.out.below hB) hq10)
    have hne2_10 : w.heap.size < B10 := Nat.lt_of_lt_of_le (HD7.out (w.heap.size, na, sa) (by simp)).lt hp10
    have hne3_10 : w.heap.size + 1 < B10 := Nat.lt_of_lt_of_le (HD7.out (w.heap.size + 1, nb, sb) (by simp)).lt hp10
    have hne5_10 : Bw2 < B10 := Nat.lt_of_lt_of_le (HD7.out (Bw2, nq, sq) (by simp)).lt hp10
    have hne6_10 : Bw2 + 1 < B10 := Nat.lt_of_lt_of_le (HD7.out (Bw2 + 1, nr, sr) (by simp)).lt hp10
    have hne8_10 : Bw2 + 1 + 1 < B10 := Nat.lt_of_lt_of_le (HD7.out (Bw2 + 1 + 1, false, ⟨#[]⟩) (by simp)).lt hp10
    clear hB hmk HL7 HD7 hp10 hq10
    go_upto_region 9 with fail
    obtain ⟨W6, hW⟩ : ∃ W, X5 = W := ⟨_, rfl⟩
    rw [hW] at HD8 HL8 ⊢
    clear hW
    go_cut [] (fun wx => Below w.heap.size w wx ∧ Bx wx (Bw2 + 1) nmr smr ∧ Bx wx (B10) nmb smb ∧ Bx wx (w.heap.size) na sa ∧ Bx wx (w.heap.size + 1) nb sb ∧ Bx wx (Bw2) nq sq ∧ Bx wx (Bw2 + 1 + 1) false ⟨#[]⟩)
    case first =>
      have bx0 := HD8.out (w.heap.size, na, sa) (by simp)
      have bx1 := HD8.out (w.heap.size + 1, nb, sb) (by simp)
      have bx2 := HD8.out (Bw2, nq, sq) (by simp)
      have bx3 := HD8.out (Bw2 + 1, nr, sr) (by simp)
      have bx4 := HD8.out (Bw2 + 1 + 1, false, ⟨#[]⟩) (by simp)
      have bx5 := HD8.out (B10, nb, sb) (by simp)
      have hl0 := HL8.out
      have hS : w.heap.size ≤ Bw2 + 1 ∧ w.heap.size ≤ B10 := by omega
      have hne : ¬ Bw2 + 1 = B10 := by omega
      have hne' : ¬ B10 = Bw2 + 1 := by omega
      obtain ⟨fx3, fy3, _, _, _⟩ := id bx1
      obtain ⟨fx6, fy6, fz6, ft6, _⟩ := id bx3
      obtain ⟨fx10, fy10, fz10, ft10, _⟩ := id bx5
      have tk0 := Lib.hid trivial
      go_region_with (first | (go_at_call 30; have hz := tk0.out; clear hz; refine (H3.out _).mono ?_; rintro e w90 ⟨rfl, hb⟩; have tk1 := Lib.hid trivial; clear tk0; replace bx0 := bx0.below hb; replace bx1 := bx1.below hb; replace bx2 := bx2.below hb; replace bx3 := bx3.below hb; replace bx4 := bx4.below hb; replace bx5 := bx5.below hb; replace hl0 := bstep hl0 hb; obtain ⟨fx3, fy3, _, _, _⟩ := id bx1; obtain ⟨fx6, fy6, fz6, ft6, _⟩ := id bx3; obtain ⟨fx10, fy10, fz10, ft10, _⟩ := id bx5) | (go_at_call 30; have hz := tk1.out; clear hz; refine (H4.out _).mono ?_; rintro e w91 ⟨rfl, hb⟩; clear tk1; replace bx0 := bx0.below hb; replace bx1 := bx1.below hb; replace bx2 := bx2.below hb; replace bx3 := bx3.below hb; replace bx4 := bx4.below hb; replace bx5 := bx5.below hb; replace hl0 := bstep hl0 hb; obtain ⟨fx3, fy3, _, _, _⟩ := id bx1; obtain ⟨fx6, fy6, fz6, ft6, _⟩ := id bx3; obtain ⟨fx10, fy10, fz10, ft10, _⟩ := id bx5))
      all_goals (go_wp2_with fail; go_meet)
      all_goals refine ⟨((((hl0.setCell (p := ⟨_, 0, none⟩) hS.2 _).setCell (p := ⟨_, 1, none⟩) hS.2 _).setCell (p := ⟨_, 0, none⟩) hS.1 _).setCell (p := ⟨_, 1, none⟩) hS.1 _), (bx3.other (by omega)).set, (bx5.set).other (by omega), (bx0.other (by omega)).other (by omega), (bx1.other (by omega)).other (by omega), (bx2.other (by omega)).other (by omega), (bx4.other (by omega)).other (by omega)⟩
    case rest =>
      obtain ⟨hl0, hb6, hb10, hbb0, hbb1, hbb2, hbb4⟩ := hcut
      obtain ⟨X9, rfl⟩ : ∃ X, X = wc := ⟨_, rfl⟩
      have HL9 := Lib.hid hl0
      have HD9 := Lib.hid (Bxs.cons (Bxs.cons (Bxs.cons (Bxs.cons (Bxs.cons (Bxs.cons (Bxs.nil X9) hbb0) hbb1) hbb2) hb6) hbb4) hb10)
      clear hl0 HL8 HD8 hbb0 hbb1 hbb2 hb6 hbb4 hb10
      obtain ⟨fx0, fy0⟩ := HD9.out.get (w.heap.size) na sa (by simp)
      obtain ⟨fx1, fy1⟩ := HD9.out.get (w.heap.size + 1) nb sb (by simp)
      go_wp2_with fail
      refine (H1.out _).mono ?_
      rintro e w7 ⟨rfl, hb⟩
      have HL10 := Lib.hid (bstep HL9.out hb)
      have HD10 := Lib.hid (HD9.out.below hb)
      clear hb HL9 HD9
      have HL11 := Lib.hid (HL10.out.alloc HL10.out.size (.cells #[.bool nq, .string sq] 23))
      have HD11 := Lib.hid (HD10.out.push' (w7.heap.size) nq sq (by simp))
      clear HL10 HD10
      have HL12 := Lib.hid (HL11.out.alloc HL11.out.size (.cells #[.bool nr, .string sr] 23))
      have HD12 := Lib.hid (HD11.out.push' (w7.heap.size + 1) nr sr (by simp))
      clear HL11 HD11
      go_wp2_with fail
      obtain ⟨Bw7, hB⟩ : ∃ B, w7.heap.size = B := ⟨_, rfl⟩
      rw [hB] at HD12 ⊢
      try rw [hB] at hne2_5
      try rw [hB] at hne3_5
      try rw [hB] at hne2_6
      try rw [hB] at hne3_6
      try rw [hB] at hne5_6
      try rw [hB] at hne2_8
      try rw [hB] at hne3_8
      try rw [hB] at hne5_8
      try rw [hB] at hne6_8
      try rw [hB] at hne2_10
      try rw [hB] at hne3_10
      try rw [hB] at hne5_10
      try rw [hB] at hne6_10
      try rw [hB] at hne8_10
      clear hB
      obtain ⟨W8, hW⟩ : ∃ W, ((w7.alloc (.cells #[.bool nq, .string sq] 23)).alloc (.cells #[.bool nr, .string sr] 23)) = W := ⟨_, rfl⟩
      rw [hW] at HD12 HL12 ⊢
      clear hW
      have hmk : ∀ w', Below W8.heap.size W8 w' → Below W8.heap.size W8 w' ∧ w'.cell? ⟨Bw2 + 1, 0, none⟩ = some (.bool nmr) ∧ w'.cell? ⟨Bw2 + 1, 1, none⟩ = some (.string smr) ∧ w'.cell? ⟨Bw2 + 1 + 1, 0, none⟩ = some (.bool false) ∧ w'.cell? ⟨Bw2 + 1 + 1, 1, none⟩ = some (.string ⟨#[]⟩) ∧ w'.cell? ⟨B10, 0, none⟩ = some (.bool nmb) ∧ w'.cell? ⟨B10, 1, none⟩ = some (.string smb) ∧ w'.cell? ⟨Bw2, 0, none⟩ = some (.bool nq) ∧ w'.cell? ⟨Bw2, 1, none⟩ = some (.string sq) ∧ w'.cell? ⟨w.heap.size + 1, 0, none⟩ = some (.bool nb) ∧ w'.cell? ⟨w.heap.size + 1, 1, none⟩ = some (.string sb) ∧ w'.cell? ⟨Bw7 + 1, 0, none⟩ = some (.bool nr) ∧ w'.cell? ⟨Bw7 + 1, 1, none⟩ = some (.string sr) ∧ w'.cell? ⟨w.heap.size, 0, none⟩ = some (.bool na) ∧ w'.cell? ⟨w.heap.size, 1, none⟩ = some (.string sa) ∧ True := fun w' h => by
        have hd := HD12.out.below h
        obtain ⟨x3, y3⟩ := hd.get (Bw2 + 1) nmr smr (by simp)
        obtain ⟨x4, y4⟩ := hd.get (Bw2 + 1 + 1) false ⟨#[]⟩ (by simp)
        obtain ⟨x5, y5⟩ := hd.get (B10) nmb smb (by simp)
        obtain ⟨x2, y2⟩ := hd.get (Bw2) nq sq (by simp)
        obtain ⟨x1, y1⟩ := hd.get (w.heap.size + 1) nb sb (by simp)
        obtain ⟨x7, y7⟩ := hd.get (Bw7 + 1) nr sr (by simp)
        obtain ⟨x0, y0⟩ := hd.get (w.heap.size) na sa (by simp)
        exact ⟨h, x3, y3, x4, y4, x5, y5, x2, y2, x1, y1, x7, y7, x0, y0, trivial⟩
      replace hmk := Lib.hid hmk
      obtain ⟨-, fx3, fy3, fx4, fy4, fx5, fy5, fx2, fy2, fx1, fy1, fx7, fy7, fx0, fy0, -⟩ := hmk.out _ (Below.refl _ W8)
      have tk0 := Lib.hid trivial
      have hs0 : W8.heap.size ≤ W8.heap.size := Nat.le_refl _
      go_region_held3 (fun w' => Below W8.heap.size W8 w' ∧ w'.cell? ⟨Bw2 + 1, 0, none⟩ = some (.bool nmr) ∧ w'.cell? ⟨Bw2 + 1, 1, none⟩ = some (.string smr) ∧ w'.cell? ⟨Bw2 + 1 + 1, 0, none⟩ = some (.bool false) ∧ w'.cell? ⟨Bw2 + 1 + 1, 1, none⟩ = some (.string ⟨#[]⟩) ∧ w'.cell? ⟨B10, 0, none⟩ = some (.bool nmb) ∧ w'.cell? ⟨B10, 1, none⟩ = some (.string smb) ∧ w'.cell? ⟨Bw2, 0, none⟩ = some (.bool nq) ∧ w'.cell? ⟨Bw2, 1, none⟩ = some (.string sq) ∧ w'.cell? ⟨w.heap.size + 1, 0, none⟩ = some (.bool nb) ∧ w'.cell? ⟨w.heap.size + 1, 1, none⟩ = some (.string sb) ∧ w'.cell? ⟨Bw7 + 1, 0, none⟩ = some (.bool nr) ∧ w'.cell? ⟨Bw7 + 1, 1, none⟩ = some (.string sr) ∧ w'.cell? ⟨w.heap.size, 0, none⟩ = some (.bool na) ∧ w'.cell? ⟨w.heap.size, 1, none⟩ = some (.string sa) ∧ True) ((refine hmk.out _ ?_; first | exact ⟨rfl, rfl, rfl, Nat.le_refl _, fun _ _ => rfl⟩ | exact bstep (‹Below W8.heap.size W8 _ ∧ _›).1 hb | exact (‹Below W8.heap.size W8 _ ∧ _›).1.alloc (‹Below W8.heap.size W8 _ ∧ _›).1.size _ | exact below_re _ (‹Below W8.heap.size W8 _ ∧ _›).1 (by simp; try omega) | exact below_re _ (‹Below W8.heap.size W8 _ ∧ _›).1 (by omega) | exact below_re2 _ (‹Below W8.heap.size W8 _ ∧ _›).1 (by omega) | exact ((‹Below W8.heap.size W8 _ ∧ _›).1.setCell (p := ⟨_, 0, none⟩) (by simp; try omega) _).setCell (p := ⟨_, 1, none⟩) (by simp; try omega) _ | exact ((‹Below W8.heap.size W8 _ ∧ _›).1.setCell (p := ⟨_, 0, none⟩) (by omega) _).setCell (p := ⟨_, 1, none⟩) (by omega) _)) (first
        | (go_at_call 29; have hz := tk0.out; clear hz; refine (H5.out _).mono ?_; rintro e w9 ⟨rfl, hb⟩; have tk1 := Lib.hid trivial; clear tk0)
        | (go_at_call 29; have hz := tk1.out; clear hz; refine (H6.out _).mono ?_; rintro e w10 ⟨rfl, hb⟩; have tk2 := Lib.hid trivial; clear tk1)
        | (go_at_call 18; have hz := tk2.out; clear hz; refine (H7.out _).mono ?_; rintro e w11 ⟨rfl, hb⟩; have tk3 := Lib.hid trivial; clear tk2)
        | (go_at_call 14; have hz := tk3.out; clear hz; refine (H8.out _).mono ?_; rintro e w12 ⟨rfl, hb⟩; have tk4 := Lib.hid trivial; clear tk3)
        | (go_at_call 29; have hz := tk4.out; clear hz; refine (H9.out _).mono ?_; rintro e w13 ⟨rfl, hb⟩; have tk5 := Lib.hid trivial; clear tk4)
        | (go_at_call 13; have hz := tk5.out; clear hz; refine (awake01 _).mono ?_; rintro e w14 ⟨rfl, hb⟩; have tk6 := Lib.hid trivial; clear tk5))
      all_goals (
        have hB := (‹Below W8.heap.size W8 _ ∧ _›).1
        have HL13 := Lib.hid (bstep HL12.out hB)
        have HD13 := Lib.hid (HD12.out.below hB)
        clear hB hmk HL12 HD12
        go_wp2
        go_ret
        exact ⟨rfl, HL13.out⟩)

end Go.Proofs.Gv
