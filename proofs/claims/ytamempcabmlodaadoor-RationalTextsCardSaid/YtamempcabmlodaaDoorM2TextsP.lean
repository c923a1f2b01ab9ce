/- Layer 02: functions of rational, walked over the results of what they call (printed by gen02f.py). -/
import Derived.Test.YtamempcabmlodaaDoorRatTabP
import Derived.Test.YtamempcabmlodaaDoorRatGrP
import Derived.Test.YtamempcabmlodaaDoorRwtexts3P
set_option linter.unusedSimpArgs false
set_option linter.unusedVariables false
namespace Go.Proofs.Gv
open Go Go.RowKit

set_option maxRecDepth 100000 in
set_option maxHeartbeats 4000000 in
theorem texts2_bad {ny my : Bool} {sp sy ty : ByteArray} (na ma : Bool) (sa ta : ByteArray) (hgz : ∀ x ∈ ([(na, sa, ma, ta)] : List (Bool × ByteArray × Bool × ByteArray)), x.2.1.size ≤ maxLen ∧ x.2.2.2.size ≤ maxLen) (hgr : grQ 24 [(na, sa, ma, ta)] = false) (s0 : ByteArray) (hl : decide ((200 : Int) < s0.size) = false) (nx mx : Bool) (sx tx : ByteArray) (hq : eqQ nx sx mx tx false ⟨#[]⟩ false ⟨#[]⟩ = true) (w : World)
    (H1 : ∀ W, Calls Tryd.prog 12 #[.string s0] W fun e w' => e = .returned (.tuple #[.agg #[.bool nx, .string sx, .bool mx, .string tx], .int .i64 3]) ∧ Below W.heap.size W w')
    (H2 : ∀ W, Calls Tryd.prog 13 #[.agg #[.bool na, .string sa, .bool ma, .string ta]] W fun e w' => e = .returned (.string sp) ∧ Below W.heap.size W w')
    (H3 : ∀ W, Calls Tryd.prog 12 #[.string sp] W fun e w' => e = .returned (.tuple #[.agg #[.bool ny, .string sy, .bool my, .string ty], .int .i64 0]) ∧ Below W.heap.size W w')
    (H4 : ∀ W, Calls Tryd.prog 15 #[.agg #[.bool na, .string sa, .bool ma, .string ta], .agg #[.bool ny, .string sy, .bool my, .string ty]] W fun e w' => e = .returned (.int .i64 0) ∧ Below W.heap.size W w')
    (H5 : ∀ W, Calls Tryd.prog 14 #[.agg #[.bool ny, .string sy, .bool my, .string ty]] W fun e w' => e = .returned (.int .i64 0) ∧ Below W.heap.size W w')
    (H6 : ∀ W, Calls Tryd.prog 11 #[] W fun e w' => e = .returned (.bool true) ∧ Below W.heap.size W w')
    : Calls Tryd.prog 3 #[.agg #[.bool na, .string sa, .bool ma, .string ta], .string s0] w fun e w' => e = .returned (.bool true) ∧ Below w.heap.size w w' := by
  replace H1 := Lib.hid H1
  replace H2 := Lib.hid H2
  replace H3 := Lib.hid H3
  replace H4 := Lib.hid H4
  replace H5 := Lib.hid H5
  replace H6 := Lib.hid H6
  have HGZ := Lib.hid hgz
  clear hgz
  go_enter Tryd.func3, Tryd.ntmps3
  have HL0 := Lib.hid (Below.refl w.heap.size w)
  have HB0 := Lib.hid (show Bs [] w from trivial)
  have HO0 := Lib.hid (show w.heap.size ≤ w.heap.size from by have := HL0.out.size; first | omega | (simp at this; omega))
  have HL1 := Lib.hid (HL0.out.alloc HL0.out.size (.cells #[.bool na, .string sa, .bool ma, .string ta] 25))
  have HB1 := Lib.hid (HB0.out.push (w.heap.size) #[.bool na, .string sa, .bool ma, .string ta] 25 (by first | rfl | simp))
  clear HL0 HB0
  have fx0_0_1 := (HB1.out.1).at 0 (.bool na) rfl
  have fx0_1_1 := (HB1.out.1).at 1 (.string sa) rfl
  have fx0_2_1 := (HB1.out.1).at 2 (.bool ma) rfl
  have fx0_3_1 := (HB1.out.1).at 3 (.string ta) rfl
  have HO1 := Lib.hid (show w.heap.size < w.heap.size + 1 from by have := (HB1.out.1).lt; first | omega | (simp at this; omega))
  have HL2 := Lib.hid (HL1.out.alloc HL1.out.size (.cells #[.bool na, .string sa, .bool ma, .string ta] 25))
  have HB2 := Lib.hid (HB1.out.push (w.heap.size + 1) #[.bool na, .string sa, .bool ma, .string ta] 25 (by first | rfl | simp))
  clear HL1 HB1
  go_wp2_with fail
  refine (greatQ_box [(na, sa, ma, ta)] (HB2.out.1) (show 1 ≤ 1000 by decide) HGZ.out).mono ?_
  rintro e w1 ⟨rfl, hb⟩
  have HL3 := Lib.hid (bstep HL2.out hb)
  have HB3 := Lib.hid (HB2.out.bel hb)
  clear hb
  clear HL2 HB2 fx0_0_1 fx0_1_1 fx0_2_1 fx0_3_1
  go_wp2_with fail
  refine (H1.out _).mono ?_
  rintro e w2 ⟨rfl, hb⟩
  have HL4 := Lib.hid (bstep HL3.out hb)
  have HB4 := Lib.hid (HB3.out.bel hb)
  clear hb
  clear HL3 HB3
  have HO2 := Lib.hid (show w.heap.size + 1 < w2.heap.size from by have := (HB4.out.1).lt; first | omega | (simp at this; omega))
  have HL5 := Lib.hid (HL4.out.alloc HL4.out.size (.cells #[.bool nx, .string sx, .bool mx, .string tx] 25))
  have HB5 := Lib.hid (HB4.out.push (w2.heap.size) #[.bool nx, .string sx, .bool mx, .string tx] 25 (by first | rfl | simp))
  clear HL4 HB4
  have fx2_0_5 := (HB5.out.1).at 0 (.bool nx) rfl
  have fx2_1_5 := (HB5.out.1).at 1 (.string sx) rfl
  have fx2_2_5 := (HB5.out.1).at 2 (.bool mx) rfl
  have fx2_3_5 := (HB5.out.1).at 3 (.string tx) rfl
  have fx0_0_5 := (HB5.out.2.2.1).at 0 (.bool na) rfl
  have fx0_1_5 := (HB5.out.2.2.1).at 1 (.string sa) rfl
  have fx0_2_5 := (HB5.out.2.2.1).at 2 (.bool ma) rfl
  have fx0_3_5 := (HB5.out.2.2.1).at 3 (.string ta) rfl
  go_wp2_with fail
  refine (H2.out _).mono ?_
  rintro e w3 ⟨rfl, hb⟩
  have HL6 := Lib.hid (bstep HL5.out hb)
  have HB6 := Lib.hid (HB5.out.bel hb)
  clear hb
  clear HL5 HB5 fx2_0_5 fx2_1_5 fx2_2_5 fx2_3_5 fx0_0_5 fx0_1_5 fx0_2_5 fx0_3_5
  go_wp2_with fail
  refine (H3.out _).mono ?_
  rintro e w4 ⟨rfl, hb⟩
  have HL7 := Lib.hid (bstep HL6.out hb)
  have HB7 := Lib.hid (HB6.out.bel hb)
  clear hb
  clear HL6 HB6
  have HO3 := Lib.hid (show w2.heap.size < w4.heap.size from by have := (HB7.out.1).lt; first | omega | (simp at this; omega))
  have HL8 := Lib.hid (HL7.out.alloc HL7.out.size (.cells #[.bool ny, .string sy, .bool my, .string ty] 25))
  have HB8 := Lib.hid (HB7.out.push (w4.heap.size) #[.bool ny, .string sy, .bool my, .string ty] 25 (by first | rfl | simp))
  clear HL7 HB7
  have fx0_0_8 := (HB8.out.2.2.2.1).at 0 (.bool na) rfl
  have fx0_1_8 := (HB8.out.2.2.2.1).at 1 (.string sa) rfl
  have fx0_2_8 := (HB8.out.2.2.2.1).at 2 (.bool ma) rfl
  have fx0_3_8 := (HB8.out.2.2.2.1).at 3 (.string ta) rfl
  have fx3_0_8 := (HB8.out.1).at 0 (.bool ny) rfl
  have fx3_1_8 := (HB8.out.1).at 1 (.string sy) rfl
  have fx3_2_8 := (HB8.out.1).at 2 (.bool my) rfl
  have fx3_3_8 := (HB8.out.1).at 3 (.string ty) rfl
  go_wp2_with fail
  refine (H4.out _).mono ?_
  rintro e w5 ⟨rfl, hb⟩
  have HL9 := Lib.hid (bstep HL8.out hb)
  have HB9 := Lib.hid (HB8.out.bel hb)
  clear hb
  clear HL8 HB8 fx0_0_8 fx0_1_8 fx0_2_8 fx0_3_8 fx3_0_8 fx3_1_8 fx3_2_8 fx3_3_8
  have fx3_0_9 := (HB9.out.1).at 0 (.bool ny) rfl
  have fx3_1_9 := (HB9.out.1).at 1 (.string sy) rfl
  have fx3_2_9 := (HB9.out.1).at 2 (.bool my) rfl
  have fx3_3_9 := (HB9.out.1).at 3 (.string ty) rfl
  go_wp2_with fail
  refine (H5.out _).mono ?_
  rintro e w6 ⟨rfl, hb⟩
  have HL10 := Lib.hid (bstep HL9.out hb)
  have HB10 := Lib.hid (HB9.out.bel hb)
  clear hb
  clear HL9 HB9 fx3_0_9 fx3_1_9 fx3_2_9 fx3_3_9
  go_wp2_with fail
  refine (H6.out _).mono ?_
  rintro e w7 ⟨rfl, hb⟩
  have HL11 := Lib.hid (bstep HL10.out hb)
  have HB11 := Lib.hid (HB10.out.bel hb)
  clear hb
  clear HL10 HB10
  go_wp2
  go_ret
  exact ⟨rfl, HL11.out⟩
end Go.Proofs.Gv

namespace Go.Proofs.Gv
open Go Go.RowKit

theorem law_texts2 (na ma : Bool) (sa ta : ByteArray) (s0 : ByteArray) (w : World) (hs : sa.size ≤ maxLen) (ht : ta.size ≤ maxLen) (h0 : s0.size ≤ maxLen) :
    Calls Tryd.prog 3 #[.agg #[.bool na, .string sa, .bool ma, .string ta], .string s0] w fun e w' => e = .returned (.bool true) ∧ Below w.heap.size w w' := by
  have hz : ∀ x ∈ ([(na, sa, ma, ta)] : List (Bool × ByteArray × Bool × ByteArray)), x.2.1.size ≤ maxLen ∧ x.2.2.2.size ≤ maxLen := fun x hx => by
    obtain rfl : x = (na, sa, ma, ta) := by simpa using hx
    exact ⟨hs, ht⟩
  cases hgr : grQ 24 [(na, sa, ma, ta)] with
  | true => exact texts2_great na ma sa ta hz hgr w cAwake02
  | false =>
    by_cases hl : 200 < s0.size
    · exact texts2_long na ma sa ta hz hgr s0 (by omega) w cAwake02
    obtain ⟨h1, h2⟩ := grQ_false hgr _ (List.mem_cons_self ..)
    replace h1 : sa.size ≤ 24 := h1
    replace h2 : ta.size ≤ 24 := h2
    obtain ⟨a, N, RA, A, hN⟩ := rq_small (n := na) (m := ma) 24 (by decide) h1 h2
    have hlo : decide ((200 : Int) < s0.size) = false := decide_eq_false (by omega)
    have P1 := fun W => cQParse (s := s0) (by omega) W
    have T := cQPrint RA
    have hT : (⟨(ratT a).toArray⟩ : ByteArray).size ≤ 200 := by
      have e1 : a.num.natAbs < 10 ^ 58 := by
        have h3 : a.num.natAbs ≤ (iv na sa).natAbs := by rw [← RA.val]; exact div_num_le _ _
        have h4 := iv_lt na sa
        exact Nat.lt_of_le_of_lt h3 (Nat.lt_of_lt_of_le h4 (Nat.le_trans (Nat.pow_le_pow_right (by decide) h1) (by decide)))
      have e2 : a.den < 10 ^ 58 := by
        have h3 : a.den ≤ max 1 (iv ma ta).natAbs := by rw [← RA.val]; exact div_den_le _ _
        have h4 := iv_lt ma ta
        have h5 : (iv ma ta).natAbs < 10 ^ 58 := Nat.lt_of_lt_of_le h4 (Nat.le_trans (Nat.pow_le_pow_right (by decide) h2) (by decide))
        have h6 : (1 : Nat) < 10 ^ 58 := by decide
        omega
      have l1 : (txt a.num).length ≤ 59 := txt_dec e1
      have l2 : (txt a.den).length ≤ 59 := txt_dec (z := (a.den : Int)) (by simpa using e2)
      simp only [ByteArray.size, List.size_toArray]
      unfold ratT
      split
      · omega
      · simp only [List.length_append, List.length_cons]; omega
    have P2 := fun W => cQParse (s := ⟨(ratT a).toArray⟩) hT W
    rw [show (⟨(ratT a).toArray⟩ : ByteArray).data.toList = ratT a from rfl, ratP_T] at P2
    have C := fun W => cQCmp RA (A.rq (by omega)) W
    rw [cmpQ_self] at C
    have K := cQCheckV A (by omega)
    cases hp : ratP s0.data.toList with
    | some q =>
      rw [hp] at P1
      obtain ⟨M, Q, hM⟩ := ratP_qb hp (show s0.data.toList.length ≤ 200 by rw [len_size]; omega)
      have T1 := fun W => cQPrint (Q.rq (by omega)) W
      rw [ratT_P hp, show (⟨s0.data.toList.toArray⟩ : ByteArray) = s0 from rfl] at T1
      exact texts2_ok na ma sa ta hz hgr s0 hlo w P1 T1 (cQCheckV Q (by omega)) T P2 C K cAwake02
    | none =>
      rw [hp] at P1
      exact texts2_bad na ma sa ta hz hgr s0 hlo _ _ _ _ (eqQ_iff.2 ⟨⟨rfl, rfl⟩, rfl, rfl⟩) w P1 T P2 C K cAwake02
end Go.Proofs.Gv
