/- awake of the chapter on integers: it returns true. -/
import Derived.Test.YtpnhccpfbeidlaaDoorEx01
import Derived.Test.YtpnhccpfbeidlaaDoorIntEq
import Derived.Deep.RegionHeld3
namespace Go.Proofs.Gv
open Go Go.RowKit

/-- One call more that makes memory alone. -/
theorem bstep {w W W1 W' : World} (h : Below w.heap.size w W) (hb : Below W1.heap.size W1 W') (e1 : W1.heap = W.heap := by rfl) (e2 : W1.os = W.os := by rfl) (e3 : W1.tape = W.tape := by rfl) (e4 : W1.output = W.output := by rfl) : Below w.heap.size w W' := by
  have hb' : Below W.heap.size W W' := ⟨hb.os.trans e2, hb.tape.trans e3, hb.output.trans e4, by rw [← e1]; exact hb.size, fun k hk => by rw [← e1]; exact hb.block k (by rw [e1]; exact hk)⟩
  exact h.trans (hb'.mono h.size)

set_option maxRecDepth 100000 in
set_option maxHeartbeats 4000000 in
theorem awake01_of (n1 n2 n3 n4 n5 n6 n7 n8 n9 n10 n11 n12 n13 : Bool) (s1 s2 s3 s4 s5 s6 s7 s8 s9 s10 s11 s12 s13 : ByteArray) (w : World)
    (H1 : ∀ W, Calls Tryd.prog 15 #[.int .i64 (4294967296)] W fun e w' => e = .returned (.agg #[.bool n1, .string s1]) ∧ Below W.heap.size W w')
    (H2 : ∀ W, Calls Tryd.prog 14 #[.agg #[.bool n1, .string s1], .agg #[.bool n1, .string s1]] W fun e w' => e = .returned (.agg #[.bool n2, .string s2]) ∧ Below W.heap.size W w')
    (H3 : ∀ W, Calls Tryd.prog 15 #[.int .i64 (-7)] W fun e w' => e = .returned (.agg #[.bool n3, .string s3]) ∧ Below W.heap.size W w')
    (H4 : ∀ W, Calls Tryd.prog 15 #[.int .i64 (2)] W fun e w' => e = .returned (.agg #[.bool n4, .string s4]) ∧ Below W.heap.size W w')
    (H5 : ∀ W, Calls Tryd.prog 17 #[.agg #[.bool n3, .string s3], .agg #[.bool n4, .string s4]] W fun e w' => e = .returned (.tuple #[.agg #[.bool n5, .string s5], .agg #[.bool n6, .string s6], .int .i64 0]) ∧ Below W.heap.size W w')
    (H7 : ∀ W, Calls Tryd.prog 15 #[.int .i64 (7)] W fun e w' => e = .returned (.agg #[.bool n7, .string s7]) ∧ Below W.heap.size W w')
    (H8 : ∀ W, Calls Tryd.prog 15 #[.int .i64 (-2)] W fun e w' => e = .returned (.agg #[.bool n8, .string s8]) ∧ Below W.heap.size W w')
    (H9 : ∀ W, Calls Tryd.prog 17 #[.agg #[.bool n7, .string s7], .agg #[.bool n8, .string s8]] W fun e w' => e = .returned (.tuple #[.agg #[.bool n5, .string s5], .agg #[.bool n9, .string s9], .int .i64 0]) ∧ Below W.heap.size W w')
    (H10 : ∀ W, Calls Tryd.prog 15 #[.int .i64 (10)] W fun e w' => e = .returned (.agg #[.bool n10, .string s10]) ∧ Below W.heap.size W w')
    (H11 : ∀ W, Calls Tryd.prog 18 #[.agg #[.bool n10, .string s10], .int .i64 2] W fun e w' => e = .returned (.tuple #[.agg #[.bool n11, .string s11], .int .i64 0]) ∧ Below W.heap.size W w')
    (H12 : ∀ W, Calls Tryd.prog 15 #[.int .i64 (-3)] W fun e w' => e = .returned (.agg #[.bool n12, .string s12]) ∧ Below W.heap.size W w')
    (H13 : ∀ W, Calls Tryd.prog 19 #[.agg #[.bool n12, .string s12], .int .i64 5] W fun e w' => e = .returned (.tuple #[.agg #[.bool n13, .string s13], .int .i64 0]) ∧ Below W.heap.size W w')
    (HP : ∀ W, Calls Tryd.prog 9 #[.agg #[.bool n2, .string s2]] W fun e w' => e = .returned (.string ⟨#[49, 56, 52, 52, 54, 55, 52, 52, 48, 55, 51, 55, 48, 57, 53, 53, 49, 54, 49, 54]⟩) ∧ Below W.heap.size W w')
    (HB : ∀ W, Calls Tryd.prog 20 #[.agg #[.bool n2, .string s2]] W fun e w' => e = .returned (.int .i64 65) ∧ Below W.heap.size W w')
    (Q5 : ∀ W, Calls Tryd.prog 15 #[.int .i64 (-4)] W fun e w' => e = .returned (.agg #[.bool n5, .string s5]) ∧ Below W.heap.size W w')
    (Q6 : ∀ W, Calls Tryd.prog 15 #[.int .i64 (1)] W fun e w' => e = .returned (.agg #[.bool n6, .string s6]) ∧ Below W.heap.size W w')
    (Q9 : ∀ W, Calls Tryd.prog 15 #[.int .i64 (-1)] W fun e w' => e = .returned (.agg #[.bool n9, .string s9]) ∧ Below W.heap.size W w')
    (Q11 : ∀ W, Calls Tryd.prog 15 #[.int .i64 (3)] W fun e w' => e = .returned (.agg #[.bool n11, .string s11]) ∧ Below W.heap.size W w')
    (Q13 : ∀ W, Calls Tryd.prog 15 #[.int .i64 (-243)] W fun e w' => e = .returned (.agg #[.bool n13, .string s13]) ∧ Below W.heap.size W w')
    : Calls Tryd.prog 6 #[] w fun e w' => e = .returned (.bool true) ∧ Below w.heap.size w w' := by
  replace H1 := Lib.hid H1
  replace H2 := Lib.hid H2
  replace H3 := Lib.hid H3
  replace H4 := Lib.hid H4
  replace H5 := Lib.hid H5
  replace H7 := Lib.hid H7
  replace H8 := Lib.hid H8
  replace H9 := Lib.hid H9
  replace H10 := Lib.hid H10
  replace H11 := Lib.hid H11
  replace H12 := Lib.hid H12
  replace H13 := Lib.hid H13
  replace HP := Lib.hid HP
  replace HB := Lib.hid HB
  replace Q5 := Lib.hid Q5
  replace Q6 := Lib.hid Q6
  replace Q9 := Lib.hid Q9
  replace Q11 := Lib.hid Q11
  replace Q13 := Lib.hid Q13
  have q5 : eqI n5 s5 n5 s5 = true := eqI_iff.mpr ⟨rfl, rfl⟩
  have q6 : eqI n6 s6 n6 s6 = true := eqI_iff.mpr ⟨rfl, rfl⟩
  have q9 : eqI n9 s9 n9 s9 = true := eqI_iff.mpr ⟨rfl, rfl⟩
  have q11 : eqI n11 s11 n11 s11 = true := eqI_iff.mpr ⟨rfl, rfl⟩
  have q13 : eqI n13 s13 n13 s13 = true := eqI_iff.mpr ⟨rfl, rfl⟩
  go_enter Tryd.func6, Tryd.ntmps6
  go_wp2_with fail
  refine (H1.out _).mono ?_
  rintro e w1 ⟨rfl, b1⟩
  go_wp2_with fail
  refine (H1.out _).mono ?_
  rintro e w2 ⟨rfl, b2⟩
  go_wp2_with fail
  refine (H2.out _).mono ?_
  rintro e w3 ⟨rfl, b3⟩
  go_wp2_with fail
  refine (H3.out _).mono ?_
  rintro e w4 ⟨rfl, b4⟩
  go_wp2_with fail
  refine (H4.out _).mono ?_
  rintro e w5 ⟨rfl, b5⟩
  go_wp2_with fail
  refine (H5.out _).mono ?_
  rintro e w6 ⟨rfl, b6⟩
  go_wp2_with fail
  refine (H7.out _).mono ?_
  rintro e w7 ⟨rfl, b7⟩
  go_wp2_with fail
  refine (H8.out _).mono ?_
  rintro e w8 ⟨rfl, b8⟩
  go_wp2_with fail
  refine (H9.out _).mono ?_
  rintro e w9 ⟨rfl, b9⟩
  go_wp2_with fail
  refine (H10.out _).mono ?_
  rintro e w10 ⟨rfl, b10⟩
  go_wp2_with fail
  refine (H11.out _).mono ?_
  rintro e w11 ⟨rfl, b11⟩
  go_wp2_with fail
  refine (H12.out _).mono ?_
  rintro e w12 ⟨rfl, b12⟩
  go_wp2_with fail
  refine (H13.out _).mono ?_
  rintro e w13 ⟨rfl, b13⟩
  go_wp2_with fail
  have L0 : Below w.heap.size w w3 := bstep (bstep (bstep (Below.refl _ _) b1) b2) b3
  have L1 := L0.alloc L0.size (.cells #[.bool n2, .string s2] 23)
  have D1 := (Boxes.nil w3).push n2 s2
  have L2 := bstep L1 b4
  have D2 := D1.below b4
  have L3 := bstep L2 b5
  have D3 := D2.below b5
  have L4 := bstep L3 b6
  have D4 := D3.below b6
  have L5 := L4.alloc L4.size (.cells #[.bool n5, .string s5] 23)
  have D5 := D4.push n5 s5
  have L6 := L5.alloc L5.size (.cells #[.bool n6, .string s6] 23)
  have D6 := D5.push n6 s6
  have L7 := bstep L6 b7
  have D7 := D6.below b7
  have L8 := bstep L7 b8
  have D8 := D7.below b8
  have L9 := bstep L8 b9
  have D9 := D8.below b9
  have L10 := L9.alloc L9.size (.cells #[.bool n5, .string s5] 23)
  have D10 := D9.push n5 s5
  have L11 := L10.alloc L10.size (.cells #[.bool n9, .string s9] 23)
  have D11 := D10.push n9 s9
  have L12 := bstep L11 b10
  have D12 := D11.below b10
  have L13 := bstep L12 b11
  have D13 := D12.below b11
  have L14 := L13.alloc L13.size (.cells #[.bool n11, .string s11] 23)
  have D14 := D13.push n11 s11
  have L15 := bstep L14 b12
  have D15 := D14.below b12
  have L16 := bstep L15 b13
  have D16 := D15.below b13
  have L17 := L16.alloc L16.size (.cells #[.bool n13, .string s13] 23)
  have D17 := D16.push n13 s13
  have HL0 := Lib.hid L17
  have HD0 := Lib.hid D17
  clear L1 D1 L2 D2 L3 D3 L4 D4 L5 D5 L6 D6 L7 D7 L8 D8 L9 D9 L10 D10 L11 D11 L12 D12 L13 D13 L14 D14 L15 D15 L16 D16 L17 D17 L0 b1 b2 b3 b4 b5 b6 b7 b8 b9 b10 b11 b12 b13
  rw [show (w6.alloc (.cells #[.bool n5, .string s5] 23)).heap.size = w6.heap.size + 1 by simp, show (w9.alloc (.cells #[.bool n5, .string s5] 23)).heap.size = w9.heap.size + 1 by simp] at HD0
  obtain ⟨B1, hB⟩ : ∃ B, w3.heap.size = B := ⟨_, rfl⟩
  rw [hB] at HD0 ⊢
  clear hB
  obtain ⟨B2, hB⟩ : ∃ B, w6.heap.size = B := ⟨_, rfl⟩
  rw [hB] at HD0 ⊢
  clear hB
  obtain ⟨B3, hB⟩ : ∃ B, w9.heap.size = B := ⟨_, rfl⟩
  rw [hB] at HD0 ⊢
  clear hB
  obtain ⟨B4, hB⟩ : ∃ B, w11.heap.size = B := ⟨_, rfl⟩
  rw [hB] at HD0 ⊢
  clear hB
  obtain ⟨B5, hB⟩ : ∃ B, w13.heap.size = B := ⟨_, rfl⟩
  rw [hB] at HD0 ⊢
  clear hB
  obtain ⟨W, hW⟩ : ∃ W, w13.alloc (.cells #[.bool n13, .string s13] 23) = W := ⟨_, rfl⟩
  rw [hW] at HD0 HL0 ⊢
  clear hW
  have hget : ∀ w', Boxes [(B5, n13, s13), (B4, n11, s11), (B3 + 1, n9, s9), (B3, n5, s5), (B2 + 1, n6, s6), (B2, n5, s5), (B1, n2, s2)] w' → (w'.cell? ⟨B1, 0, none⟩ = some (.bool n2) ∧ w'.cell? ⟨B1, 1, none⟩ = some (.string s2) ∧ w'.cell? ⟨B2, 0, none⟩ = some (.bool n5) ∧ w'.cell? ⟨B2, 1, none⟩ = some (.string s5) ∧ w'.cell? ⟨B2 + 1, 0, none⟩ = some (.bool n6) ∧ w'.cell? ⟨B2 + 1, 1, none⟩ = some (.string s6) ∧ w'.cell? ⟨B3, 0, none⟩ = some (.bool n5) ∧ w'.cell? ⟨B3, 1, none⟩ = some (.string s5) ∧ w'.cell? ⟨B3 + 1, 0, none⟩ = some (.bool n9) ∧ w'.cell? ⟨B3 + 1, 1, none⟩ = some (.string s9) ∧ w'.cell? ⟨B4, 0, none⟩ = some (.bool n11) ∧ w'.cell? ⟨B4, 1, none⟩ = some (.string s11) ∧ w'.cell? ⟨B5, 0, none⟩ = some (.bool n13) ∧ w'.cell? ⟨B5, 1, none⟩ = some (.string s13)) := fun w' h => by
    obtain ⟨x0, y0⟩ := h.get (B1) n2 s2 (by simp)
    obtain ⟨x1, y1⟩ := h.get (B2) n5 s5 (by simp)
    obtain ⟨x2, y2⟩ := h.get (B2 + 1) n6 s6 (by simp)
    obtain ⟨x3, y3⟩ := h.get (B3) n5 s5 (by simp)
    obtain ⟨x4, y4⟩ := h.get (B3 + 1) n9 s9 (by simp)
    obtain ⟨x5, y5⟩ := h.get (B4) n11 s11 (by simp)
    obtain ⟨x6, y6⟩ := h.get (B5) n13 s13 (by simp)
    exact ⟨x0, y0, x1, y1, x2, y2, x3, y3, x4, y4, x5, y5, x6, y6⟩
  replace hget := Lib.hid hget
  obtain ⟨x0, y0, x1, y1, x2, y2, x3, y3, x4, y4, x5, y5, x6, y6⟩ := hget.out W HD0.out
  go_region_held3 (fun w' => w'.cell? ⟨B1, 0, none⟩ = some (.bool n2) ∧ w'.cell? ⟨B1, 1, none⟩ = some (.string s2) ∧ w'.cell? ⟨B2, 0, none⟩ = some (.bool n5) ∧ w'.cell? ⟨B2, 1, none⟩ = some (.string s5) ∧ w'.cell? ⟨B2 + 1, 0, none⟩ = some (.bool n6) ∧ w'.cell? ⟨B2 + 1, 1, none⟩ = some (.string s6) ∧ w'.cell? ⟨B3, 0, none⟩ = some (.bool n5) ∧ w'.cell? ⟨B3, 1, none⟩ = some (.string s5) ∧ w'.cell? ⟨B3 + 1, 0, none⟩ = some (.bool n9) ∧ w'.cell? ⟨B3 + 1, 1, none⟩ = some (.string s9) ∧ w'.cell? ⟨B4, 0, none⟩ = some (.bool n11) ∧ w'.cell? ⟨B4, 1, none⟩ = some (.string s11) ∧ w'.cell? ⟨B5, 0, none⟩ = some (.bool n13) ∧ w'.cell? ⟨B5, 1, none⟩ = some (.string s13)) (first | (go_keep; done) | exact hget.out _ HD7.out | exact hget.out _ HD6.out | exact hget.out _ HD5.out | exact hget.out _ HD4.out | exact hget.out _ HD3.out | exact hget.out _ HD2.out | exact hget.out _ HD1.out) (first
    | (go_at_call 9; have hz := HD0.out; clear hz; refine (HP.out _).mono ?_; rintro e v1 ⟨rfl, hb⟩; have HL1 := Lib.hid (bstep HL0.out hb); have HD1 := Lib.hid (HD0.out.below hb); clear hb HD0)
    | (go_at_call 20; have hz := HD1.out; clear hz; refine (HB.out _).mono ?_; rintro e v2 ⟨rfl, hb⟩; have HL2 := Lib.hid (bstep HL1.out hb); have HD2 := Lib.hid (HD1.out.below hb); clear hb HD1)
    | (go_at_call 15; have hz := HD2.out; clear hz; refine (Q5.out _).mono ?_; rintro e v3 ⟨rfl, hb⟩; have HL3 := Lib.hid (bstep HL2.out hb); have HD3 := Lib.hid (HD2.out.below hb); clear hb HD2)
    | (go_at_call 15; have hz := HD3.out; clear hz; refine (Q6.out _).mono ?_; rintro e v4 ⟨rfl, hb⟩; have HL4 := Lib.hid (bstep HL3.out hb); have HD4 := Lib.hid (HD3.out.below hb); clear hb HD3)
    | (go_at_call 15; have hz := HD4.out; clear hz; refine (Q9.out _).mono ?_; rintro e v5 ⟨rfl, hb⟩; have HL5 := Lib.hid (bstep HL4.out hb); have HD5 := Lib.hid (HD4.out.below hb); clear hb HD4)
    | (go_at_call 15; have hz := HD5.out; clear hz; refine (Q11.out _).mono ?_; rintro e v6 ⟨rfl, hb⟩; have HL6 := Lib.hid (bstep HL5.out hb); have HD6 := Lib.hid (HD5.out.below hb); clear hb HD5)
    | (go_at_call 15; have hz := HD6.out; clear hz; refine (Q13.out _).mono ?_; rintro e v7 ⟨rfl, hb⟩; have HL7 := Lib.hid (bstep HL6.out hb); have HD7 := Lib.hid (HD6.out.below hb); clear hb HD6))
  all_goals (
    go_wp2
    go_ret
    exact ⟨rfl, HL7.out⟩)
end Go.Proofs.Gv
