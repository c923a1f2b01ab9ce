import Derived.Test.YtamempcabmlodaaGreatDoorRefQP
set_option maxHeartbeats 4000000
set_option maxRecDepth 100000
set_option linter.unusedSimpArgs false
set_option linter.unusedVariables false
namespace Go.Proofs.Gv
open Go Go.RowKit
theorem cutN_A (s : ByteArray) : cutN s = cutA s := by
 unfold cutN
 split
 ·rfl
 ·rename_i h
  have hd : s.data.toList.dropWhile (· != 47) = [] := by
   cases hx : s.data.toList.dropWhile (· != 47) with
   | nil => rfl
   | cons c m => unfold cutF at h; rw [hx] at h; exact absurd rfl h
  unfold cutA
  have := List.takeWhile_append_dropWhile (p := fun x : UInt8 => x != 47) (l := s.data.toList)
  rw [hd, List.append_nil] at this
  rw [this]
theorem ratP_some {s : ByteArray} {q : Rat} (h : ratP s.data.toList = some q) :
  goodT (cutN s).data.toList = true ∧ goodT (cutD s).data.toList = true ∧ 0 < pz (cutD s).data.toList ∧ q = Rat.divInt (pz (cutN s).data.toList) (pz (cutD s).data.toList) := by
 rw [cutN_A]
 unfold ratP at h
 rw [← cutA_list, ← cutB_list] at h
 by_cases g1 : goodT (cutA s).data.toList = false
 ·rw [if_pos g1] at h; cases h
 rw [if_neg g1] at h
 by_cases hd : s.data.toList.dropWhile (· != 47) = []
 ·rw [if_pos hd] at h
  obtain rfl := Option.some.inj h
  have hF : cutF s = false := by unfold cutF; rw [hd]; rfl
  have e : cutD s = ⟨#[49]⟩ := by unfold cutD; rw [hF]; rfl
  rw [e]
  refine ⟨by simpa using g1, by decide +kernel, by decide +kernel, ?_⟩
  rw [show pz (⟨#[49]⟩ : ByteArray).data.toList = 1 by decide +kernel]
 rw [if_neg hd] at h
 have hF : cutF s = true := by unfold cutF; cases hx : s.data.toList.dropWhile (· != 47) with | nil => exact absurd hx hd | cons => rfl
 have e : cutD s = cutB s := by unfold cutD; rw [hF]; rfl
 rw [e]
 by_cases g2 : goodT (cutB s).data.toList = false
 ·rw [if_pos g2] at h; cases h
 rw [if_neg g2] at h
 split at h
 ·rename_i h4
  obtain rfl := Option.some.inj h
  exact ⟨by simpa using g1, by simpa using g2, h4.1.1, rfl⟩
 ·cases h
theorem rrParse {s : ByteArray} (hs : s.size ≤ 200) (W : World) :
  Calls Tryz.prog 34 #[.string s] W (match ratP s.data.toList with | some q => RetQE W q 0 | none => RetQZ W 3) := by
 have hA : (cutN s).size ≤ 200 := by rw [cutN_A]; have := cutA_size s; omega
 have hB : (cutD s).size ≤ 201 := by
  unfold cutD
  split
  ·have := cutB_size s; omega
  ·decide
 have hnone : ¬ (goodT (cutN s).data.toList = true ∧ goodT (cutD s).data.toList = true ∧ 0 < pz (cutD s).data.toList) → ratP s.data.toList = none := by
  intro h
  cases hp : ratP s.data.toList with
  | none => rfl
  | some q => obtain ⟨a, b, c, _⟩ := ratP_some hp; exact absurd ⟨a, b, c⟩ h
 by_cases g1 : goodT (cutN s).data.toList = true
 case neg =>
  rw [hnone (fun h => g1 h.1)]
  have P1 := fun W => rParse_badT (cutN s) W (by omega) (by simpa using g1)
  by_cases g2 : goodT (cutD s).data.toList = true
  ·exact rParseQ_bad1 s (by omega) W P1 (fun W => rParse_good (cutD s) W (by omega) g2)
  ·exact rParseQ_bad1 s (by omega) W P1 (fun W => rParse_badT (cutD s) W (by omega) (by simpa using g2))
 have P1 := fun W => rParse_good (cutN s) W (by omega) g1
 by_cases g2 : goodT (cutD s).data.toList = true
 case neg =>
  rw [hnone (fun h => g2 h.2.1)]
  exact rParseQ_bad2 s (by omega) W P1 (fun W => rParse_badT (cutD s) W (by omega) (by simpa using g2))
 have P2 := fun W => rParse_good (cutD s) W (by omega) g2
 have hz := pz_lt g1 (k := 201) (by rw [len_size]; omega)
 have hy := pz_lt g2 (k := 201) (by rw [len_size]; omega)
 have hsome := fun q => @ratP_some s q
 obtain ⟨n, hn⟩ : ∃ n, pz (cutN s).data.toList = n := ⟨_, rfl⟩
 obtain ⟨d, hd⟩ : ∃ d, pz (cutD s).data.toList = d := ⟨_, rfl⟩
 rw [hn] at hz P1
 rw [hd] at hy P2
 simp only [hn, hd] at hsome hnone
 have RN : Rp (sgn n) (mg n.natAbs) n := rpV hz (by decide)
 have RD : Rp (sgn d) (mg d.natAbs) d := rpV hy (by decide)
 have S := rrSign RD
 by_cases hc : 0 < d
 case neg =>
  rw [hnone (fun h => hc h.2.2)]
  have h1 : cmpI d 0 ≤ 0 := by
   rcases cmpI_cases d 0 with ⟨_, e, _⟩ | ⟨_, e, _⟩ | ⟨h, _, _⟩
   ·omega
   ·omega
   ·exact absurd h hc
  exact rParseQ_bad3 s (by omega) h1 W P1 P2 S
 have h1 : decide (cmpI d 0 ≤ 0) = false := by rw [cmpI_pos hc]; rfl
 have L := rrLow RN RD (rpSz hz (by decide)) (rpSz hy (by decide)) (by omega)
 have Q : Qb (4 * 201) (Rat.divInt n d) := Qb.div hz hy (by decide)
 have T := rrPrint (Q.rq (by decide))
 by_cases ht : ratT (Rat.divInt n d) = s.data.toList
 ·have hp : ratP s.data.toList = some (Rat.divInt n d) := by rw [← ht, ratP_T]
  rw [hp]
  exact rParseQ_ok s (by omega) h1 (by rw [beq_iff_eq, ByteArray.toList_eq, ByteArray.toList_eq]; exact ht) W P1 P2 S L T
 ·have hp : ratP s.data.toList = none := by
   cases hp : ratP s.data.toList with
   | none => rfl
   | some q => obtain ⟨_, _, _, rfl⟩ := hsome q hp; exact absurd (ratT_P hp) ht
  rw [hp]
  exact rParseQ_no s (by omega) h1 (by rw [beq_eq_false_iff_ne, ByteArray.toList_eq, ByteArray.toList_eq]; exact ht) W P1 P2 S L T
theorem others_great {s0 : ByteArray} {n0 : Int} (na ma : Bool) (sa ta : ByteArray) (nb mb : Bool) (sb tb : ByteArray) (hgz : ∀ x ∈ ([(na, sa, ma, ta), (nb, sb, mb, tb)] : List (Bool × ByteArray × Bool × ByteArray)), x.2.1.size ≤ maxLen ∧ x.2.2.2.size ≤ maxLen) (hgr : grQ 24 [(na, sa, ma, ta), (nb, sb, mb, tb)] = true) (w : World)
  (H1 : GivesV 6 #[] (.bool true))
  : Calls Tryz.prog 4 #[.agg #[.bool na, .string sa, .bool ma, .string ta], .agg #[.bool nb, .string sb, .bool mb, .string tb], .int .i64 n0, .string s0] w fun e w' => e = .returned (.bool true) ∧ Below w.heap.size w w' := by
 replace H1 := Lib.hid H1
 have HGZ := Lib.hid hgz
 clear hgz
 go_enter Tryz.func4, Tryz.ntmps4
 have HL0 := Lib.hid (Below.refl w.heap.size w)
 have HB0 := Lib.hid (show Bs [] w from trivial)
 have HO0 := Lib.hid (show w.heap.size ≤ w.heap.size from by have := HL0.out.size; first | omega | (simp at this; omega))
 obtain ⟨HL1, HB1⟩ := growLB HL0 HB0 (w.heap.size) #[.bool na, .string sa, .bool ma, .string ta] 25
 clear HL0 HB0
 have HO1 := Lib.hid (show w.heap.size < w.heap.size + 1 from by have := (HB1.out.1).lt; first | omega | (simp at this; omega))
 obtain ⟨HL2, HB2⟩ := growLB HL1 HB1 (w.heap.size + 1) #[.bool nb, .string sb, .bool mb, .string tb] 25
 clear HL1 HB1
 obtain ⟨fx0_0_2, fx0_1_2, fx0_2_2, fx0_3_2⟩ := (HB2.out.2.1).at4
 obtain ⟨fx1_0_2, fx1_1_2, fx1_2_2, fx1_3_2⟩ := (HB2.out.1).at4
 have HO2 := Lib.hid (show w.heap.size + 1 < w.heap.size + 1 + 1 from by have := (HB2.out.1).lt; first | omega | (simp at this; omega))
 obtain ⟨HL3, HB3⟩ := growLB HL2 HB2 (w.heap.size + 1 + 1) #[.bool na, .string sa, .bool ma, .string ta, .bool nb, .string sb, .bool mb, .string tb] 25
 clear HL2 HB2
 go_wp2_with fail
 refine (greatQ_box [(na, sa, ma, ta), (nb, sb, mb, tb)] (HB3.out.1) (show 2 ≤ 1000 by decide) HGZ.out).mono ?_
 rintro e w1 ⟨rfl, hb⟩
 obtain ⟨HL4, HB4⟩ := cameLB HL3 HB3 hb
 clear hb
 clear HL3 HB3 fx0_0_2 fx0_1_2 fx0_2_2 fx0_3_2 fx1_0_2 fx1_1_2 fx1_2_2 fx1_3_2
 go_wp2_with fail
 refine (H1.out _).mono ?_
 rintro e w2 ⟨rfl, hb⟩
 obtain ⟨HL5, HB5⟩ := cameLB HL4 HB4 hb
 clear hb
 clear HL4 HB4
 go_wp2
 go_ret
 exact ⟨rfl, HL5.out⟩
theorem others_mid {s0 : ByteArray} (na ma : Bool) (sa ta : ByteArray) (nb mb : Bool) (sb tb : ByteArray) (hgz : ∀ x ∈ ([(na, sa, ma, ta), (nb, sb, mb, tb)] : List (Bool × ByteArray × Bool × ByteArray)), x.2.1.size ≤ maxLen ∧ x.2.2.2.size ≤ maxLen) (hgr : grQ 24 [(na, sa, ma, ta), (nb, sb, mb, tb)] = false) (n0 : Int) (hn1 : 40 < n0) (hn2 : n0 ≤ 4096) (w : World)
  (H1 : GivesV 6 #[] (.bool true))
  : Calls Tryz.prog 4 #[.agg #[.bool na, .string sa, .bool ma, .string ta], .agg #[.bool nb, .string sb, .bool mb, .string tb], .int .i64 n0, .string s0] w fun e w' => e = .returned (.bool true) ∧ Below w.heap.size w w' := by
 replace H1 := Lib.hid H1
 have HGZ := Lib.hid hgz
 clear hgz
 go_enter Tryz.func4, Tryz.ntmps4
 have HL0 := Lib.hid (Below.refl w.heap.size w)
 have HB0 := Lib.hid (show Bs [] w from trivial)
 have HO0 := Lib.hid (show w.heap.size ≤ w.heap.size from by have := HL0.out.size; first | omega | (simp at this; omega))
 obtain ⟨HL1, HB1⟩ := growLB HL0 HB0 (w.heap.size) #[.bool na, .string sa, .bool ma, .string ta] 25
 clear HL0 HB0
 have HO1 := Lib.hid (show w.heap.size < w.heap.size + 1 from by have := (HB1.out.1).lt; first | omega | (simp at this; omega))
 obtain ⟨HL2, HB2⟩ := growLB HL1 HB1 (w.heap.size + 1) #[.bool nb, .string sb, .bool mb, .string tb] 25
 clear HL1 HB1
 obtain ⟨fx0_0_2, fx0_1_2, fx0_2_2, fx0_3_2⟩ := (HB2.out.2.1).at4
 obtain ⟨fx1_0_2, fx1_1_2, fx1_2_2, fx1_3_2⟩ := (HB2.out.1).at4
 have HO2 := Lib.hid (show w.heap.size + 1 < w.heap.size + 1 + 1 from by have := (HB2.out.1).lt; first | omega | (simp at this; omega))
 obtain ⟨HL3, HB3⟩ := growLB HL2 HB2 (w.heap.size + 1 + 1) #[.bool na, .string sa, .bool ma, .string ta, .bool nb, .string sb, .bool mb, .string tb] 25
 clear HL2 HB2
 go_wp2_with fail
 refine (greatQ_box [(na, sa, ma, ta), (nb, sb, mb, tb)] (HB3.out.1) (show 2 ≤ 1000 by decide) HGZ.out).mono ?_
 rintro e w1 ⟨rfl, hb⟩
 obtain ⟨HL4, HB4⟩ := cameLB HL3 HB3 hb
 clear hb
 clear HL3 HB3 fx0_0_2 fx0_1_2 fx0_2_2 fx0_3_2 fx1_0_2 fx1_1_2 fx1_2_2 fx1_3_2
 go_wp2_with fail
 refine (H1.out _).mono ?_
 rintro e w2 ⟨rfl, hb⟩
 obtain ⟨HL5, HB5⟩ := cameLB HL4 HB4 hb
 clear hb
 clear HL4 HB4
 go_wp2
 go_ret
 exact ⟨rfl, HL5.out⟩
theorem others_long (na ma : Bool) (sa ta : ByteArray) (nb mb : Bool) (sb tb : ByteArray) (hgz : ∀ x ∈ ([(na, sa, ma, ta), (nb, sb, mb, tb)] : List (Bool × ByteArray × Bool × ByteArray)), x.2.1.size ≤ maxLen ∧ x.2.2.2.size ≤ maxLen) (hgr : grQ 24 [(na, sa, ma, ta), (nb, sb, mb, tb)] = false) (n0 : Int) (hn1 : decide ((40 : Int) < n0) = false) (s0 : ByteArray) (hl : (200 : Int) < s0.size) (w : World)
  (H1 : GivesV 6 #[] (.bool true))
  : Calls Tryz.prog 4 #[.agg #[.bool na, .string sa, .bool ma, .string ta], .agg #[.bool nb, .string sb, .bool mb, .string tb], .int .i64 n0, .string s0] w fun e w' => e = .returned (.bool true) ∧ Below w.heap.size w w' := by
 replace H1 := Lib.hid H1
 have HGZ := Lib.hid hgz
 clear hgz
 go_enter Tryz.func4, Tryz.ntmps4
 have HL0 := Lib.hid (Below.refl w.heap.size w)
 have HB0 := Lib.hid (show Bs [] w from trivial)
 have HO0 := Lib.hid (show w.heap.size ≤ w.heap.size from by have := HL0.out.size; first | omega | (simp at this; omega))
 obtain ⟨HL1, HB1⟩ := growLB HL0 HB0 (w.heap.size) #[.bool na, .string sa, .bool ma, .string ta] 25
 clear HL0 HB0
 have HO1 := Lib.hid (show w.heap.size < w.heap.size + 1 from by have := (HB1.out.1).lt; first | omega | (simp at this; omega))
 obtain ⟨HL2, HB2⟩ := growLB HL1 HB1 (w.heap.size + 1) #[.bool nb, .string sb, .bool mb, .string tb] 25
 clear HL1 HB1
 obtain ⟨fx0_0_2, fx0_1_2, fx0_2_2, fx0_3_2⟩ := (HB2.out.2.1).at4
 obtain ⟨fx1_0_2, fx1_1_2, fx1_2_2, fx1_3_2⟩ := (HB2.out.1).at4
 have HO2 := Lib.hid (show w.heap.size + 1 < w.heap.size + 1 + 1 from by have := (HB2.out.1).lt; first | omega | (simp at this; omega))
 obtain ⟨HL3, HB3⟩ := growLB HL2 HB2 (w.heap.size + 1 + 1) #[.bool na, .string sa, .bool ma, .string ta, .bool nb, .string sb, .bool mb, .string tb] 25
 clear HL2 HB2
 go_wp2_with fail
 refine (greatQ_box [(na, sa, ma, ta), (nb, sb, mb, tb)] (HB3.out.1) (show 2 ≤ 1000 by decide) HGZ.out).mono ?_
 rintro e w1 ⟨rfl, hb⟩
 obtain ⟨HL4, HB4⟩ := cameLB HL3 HB3 hb
 clear hb
 clear HL3 HB3 fx0_0_2 fx0_1_2 fx0_2_2 fx0_3_2 fx1_0_2 fx1_1_2 fx1_2_2 fx1_3_2
 go_wp2_with fail
 refine (H1.out _).mono ?_
 rintro e w2 ⟨rfl, hb⟩
 obtain ⟨HL5, HB5⟩ := cameLB HL4 HB4 hb
 clear hb
 clear HL4 HB4
 go_wp2
 go_ret
 exact ⟨rfl, HL5.out⟩
theorem others_law {nx mx nu mu nq mq : Bool} {sx tx su tu sq tq : ByteArray} {e1 e2 e3 : Int} (na ma : Bool) (sa ta : ByteArray) (nb mb : Bool) (sb tb : ByteArray) (hgz : ∀ x ∈ ([(na, sa, ma, ta), (nb, sb, mb, tb)] : List (Bool × ByteArray × Bool × ByteArray)), x.2.1.size ≤ maxLen ∧ x.2.2.2.size ≤ maxLen) (hgr : grQ 24 [(na, sa, ma, ta), (nb, sb, mb, tb)] = false) (n0 : Int) (hn1 : decide ((40 : Int) < n0) = false) (s0 : ByteArray) (hl : decide ((200 : Int) < s0.size) = false) (sp : ByteArray) (w : World)
  (H1 : GivesV 29 #[.agg #[.bool na, .string sa, .bool ma, .string ta], .int .i64 n0] (.tuple #[.agg #[.bool nx, .string sx, .bool mx, .string tx], .int .i64 e1]))
  (H2 : GivesV 30 #[.agg #[.bool na, .string sa, .bool ma, .string ta], .int .i64 n0] (.tuple #[.agg #[.bool nx, .string sx, .bool mx, .string tx], .int .i64 e1]))
  (H3 : GivesV 31 #[.agg #[.bool na, .string sa, .bool ma, .string ta], .agg #[.bool nb, .string sb, .bool mb, .string tb]] (.tuple #[.agg #[.bool nu, .string su, .bool mu, .string tu], .int .i64 e2]))
  (H4 : GivesV 32 #[.agg #[.bool na, .string sa, .bool ma, .string ta], .agg #[.bool nb, .string sb, .bool mb, .string tb]] (.tuple #[.agg #[.bool nu, .string su, .bool mu, .string tu], .int .i64 e2]))
  (H5 : GivesV 33 #[.string s0] (.tuple #[.agg #[.bool nq, .string sq, .bool mq, .string tq], .int .i64 e3]))
  (H6 : GivesV 34 #[.string s0] (.tuple #[.agg #[.bool nq, .string sq, .bool mq, .string tq], .int .i64 e3]))
  (H7 : GivesV 35 #[.agg #[.bool na, .string sa, .bool ma, .string ta]] (.string sp))
  (H8 : GivesV 36 #[.agg #[.bool na, .string sa, .bool ma, .string ta]] (.string sp))
  (H9 : GivesV 6 #[] (.bool true))
  : Calls Tryz.prog 4 #[.agg #[.bool na, .string sa, .bool ma, .string ta], .agg #[.bool nb, .string sb, .bool mb, .string tb], .int .i64 n0, .string s0] w fun e w' => e = .returned (.bool true) ∧ Below w.heap.size w w' := by
 replace H1 := Lib.hid H1
 replace H2 := Lib.hid H2
 replace H3 := Lib.hid H3
 replace H4 := Lib.hid H4
 replace H5 := Lib.hid H5
 replace H6 := Lib.hid H6
 replace H7 := Lib.hid H7
 replace H8 := Lib.hid H8
 replace H9 := Lib.hid H9
 have HGZ := Lib.hid hgz
 clear hgz
 have qx : eqQ nx sx mx tx nx sx mx tx = true := eqQ_iff.2 ⟨⟨rfl, rfl⟩, ⟨rfl, rfl⟩⟩
 have qu : eqQ nu su mu tu nu su mu tu = true := eqQ_iff.2 ⟨⟨rfl, rfl⟩, ⟨rfl, rfl⟩⟩
 have qq : eqQ nq sq mq tq nq sq mq tq = true := eqQ_iff.2 ⟨⟨rfl, rfl⟩, ⟨rfl, rfl⟩⟩
 go_enter Tryz.func4, Tryz.ntmps4
 have HL0 := Lib.hid (Below.refl w.heap.size w)
 have HB0 := Lib.hid (show Bs [] w from trivial)
 have HO0 := Lib.hid (show w.heap.size ≤ w.heap.size from by have := HL0.out.size; first | omega | (simp at this; omega))
 obtain ⟨HL1, HB1⟩ := growLB HL0 HB0 (w.heap.size) #[.bool na, .string sa, .bool ma, .string ta] 25
 clear HL0 HB0
 have HO1 := Lib.hid (show w.heap.size < w.heap.size + 1 from by have := (HB1.out.1).lt; first | omega | (simp at this; omega))
 obtain ⟨HL2, HB2⟩ := growLB HL1 HB1 (w.heap.size + 1) #[.bool nb, .string sb, .bool mb, .string tb] 25
 clear HL1 HB1
 obtain ⟨fx0_0_2, fx0_1_2, fx0_2_2, fx0_3_2⟩ := (HB2.out.2.1).at4
 obtain ⟨fx1_0_2, fx1_1_2, fx1_2_2, fx1_3_2⟩ := (HB2.out.1).at4
 have HO2 := Lib.hid (show w.heap.size + 1 < w.heap.size + 1 + 1 from by have := (HB2.out.1).lt; first | omega | (simp at this; omega))
 obtain ⟨HL3, HB3⟩ := growLB HL2 HB2 (w.heap.size + 1 + 1) #[.bool na, .string sa, .bool ma, .string ta, .bool nb, .string sb, .bool mb, .string tb] 25
 clear HL2 HB2
 go_wp2_with fail
 refine (greatQ_box [(na, sa, ma, ta), (nb, sb, mb, tb)] (HB3.out.1) (show 2 ≤ 1000 by decide) HGZ.out).mono ?_
 rintro e w1 ⟨rfl, hb⟩
 obtain ⟨HL4, HB4⟩ := cameLB HL3 HB3 hb
 clear hb
 clear HL3 HB3 fx0_0_2 fx0_1_2 fx0_2_2 fx0_3_2 fx1_0_2 fx1_1_2 fx1_2_2 fx1_3_2
 obtain ⟨fx0_0_4, fx0_1_4, fx0_2_4, fx0_3_4⟩ := (HB4.out.2.2.1).at4
 go_wp2_with fail
 refine (H1.out _).mono ?_
 rintro e w2 ⟨rfl, hb⟩
 obtain ⟨HL5, HB5⟩ := cameLB HL4 HB4 hb
 clear hb
 clear HL4 HB4 fx0_0_4 fx0_1_4 fx0_2_4 fx0_3_4
 have HO3 := Lib.hid (show w.heap.size + 1 + 1 < w2.heap.size from by have := (HB5.out.1).lt; first | omega | (simp at this; omega))
 obtain ⟨HL6, HB6⟩ := growLB HL5 HB5 (w2.heap.size) #[.bool nx, .string sx, .bool mx, .string tx] 25
 clear HL5 HB5
 obtain ⟨fx0_0_6, fx0_1_6, fx0_2_6, fx0_3_6⟩ := (HB6.out.2.2.2.1).at4
 go_wp2_with fail
 refine (H2.out _).mono ?_
 rintro e w3 ⟨rfl, hb⟩
 obtain ⟨HL7, HB7⟩ := cameLB HL6 HB6 hb
 clear hb
 clear HL6 HB6 fx0_0_6 fx0_1_6 fx0_2_6 fx0_3_6
 have HO4 := Lib.hid (show w2.heap.size < w3.heap.size from by have := (HB7.out.1).lt; first | omega | (simp at this; omega))
 obtain ⟨HL8, HB8⟩ := growLB HL7 HB7 (w3.heap.size) #[.bool nx, .string sx, .bool mx, .string tx] 25
 clear HL7 HB7
 obtain ⟨fx0_0_8, fx0_1_8, fx0_2_8, fx0_3_8⟩ := (HB8.out.2.2.2.2.1).at4
 obtain ⟨fx1_0_8, fx1_1_8, fx1_2_8, fx1_3_8⟩ := (HB8.out.2.2.2.1).at4
 go_wp2_with fail
 refine (H3.out _).mono ?_
 rintro e w4 ⟨rfl, hb⟩
 obtain ⟨HL9, HB9⟩ := cameLB HL8 HB8 hb
 clear hb
 clear HL8 HB8 fx0_0_8 fx0_1_8 fx0_2_8 fx0_3_8 fx1_0_8 fx1_1_8 fx1_2_8 fx1_3_8
 have HO5 := Lib.hid (show w3.heap.size < w4.heap.size from by have := (HB9.out.1).lt; first | omega | (simp at this; omega))
 obtain ⟨HL10, HB10⟩ := growLB HL9 HB9 (w4.heap.size) #[.bool nu, .string su, .bool mu, .string tu] 25
 clear HL9 HB9
 obtain ⟨fx0_0_10, fx0_1_10, fx0_2_10, fx0_3_10⟩ := (HB10.out.2.2.2.2.2.1).at4
 obtain ⟨fx1_0_10, fx1_1_10, fx1_2_10, fx1_3_10⟩ := (HB10.out.2.2.2.2.1).at4
 go_wp2_with fail
 refine (H4.out _).mono ?_
 rintro e w5 ⟨rfl, hb⟩
 obtain ⟨HL11, HB11⟩ := cameLB HL10 HB10 hb
 clear hb
 clear HL10 HB10 fx0_0_10 fx0_1_10 fx0_2_10 fx0_3_10 fx1_0_10 fx1_1_10 fx1_2_10 fx1_3_10
 have HO6 := Lib.hid (show w4.heap.size < w5.heap.size from by have := (HB11.out.1).lt; first | omega | (simp at this; omega))
 obtain ⟨HL12, HB12⟩ := growLB HL11 HB11 (w5.heap.size) #[.bool nu, .string su, .bool mu, .string tu] 25
 clear HL11 HB11
 go_wp2_with fail
 refine (H5.out _).mono ?_
 rintro e w6 ⟨rfl, hb⟩
 obtain ⟨HL13, HB13⟩ := cameLB HL12 HB12 hb
 clear hb
 clear HL12 HB12
 have HO7 := Lib.hid (show w5.heap.size < w6.heap.size from by have := (HB13.out.1).lt; first | omega | (simp at this; omega))
 obtain ⟨HL14, HB14⟩ := growLB HL13 HB13 (w6.heap.size) #[.bool nq, .string sq, .bool mq, .string tq] 25
 clear HL13 HB13
 go_wp2_with fail
 refine (H6.out _).mono ?_
 rintro e w7 ⟨rfl, hb⟩
 obtain ⟨HL15, HB15⟩ := cameLB HL14 HB14 hb
 clear hb
 clear HL14 HB14
 have HO8 := Lib.hid (show w6.heap.size < w7.heap.size from by have := (HB15.out.1).lt; first | omega | (simp at this; omega))
 obtain ⟨HL16, HB16⟩ := growLB HL15 HB15 (w7.heap.size) #[.bool nq, .string sq, .bool mq, .string tq] 25
 clear HL15 HB15
 go_wp2_with fail
 obtain ⟨Bw2, hB⟩ : ∃ B, w2.heap.size = B := ⟨_, rfl⟩
 rw [hB] at HB16 ⊢
 try rw [hB] at HO0
 try rw [hB] at HO1
 try rw [hB] at HO2
 try rw [hB] at HO3
 try rw [hB] at HO4
 try rw [hB] at HO5
 try rw [hB] at HO6
 try rw [hB] at HO7
 try rw [hB] at HO8
 clear hB
 obtain ⟨Bw3, hB⟩ : ∃ B, w3.heap.size = B := ⟨_, rfl⟩
 rw [hB] at HB16 ⊢
 try rw [hB] at HO0
 try rw [hB] at HO1
 try rw [hB] at HO2
 try rw [hB] at HO3
 try rw [hB] at HO4
 try rw [hB] at HO5
 try rw [hB] at HO6
 try rw [hB] at HO7
 try rw [hB] at HO8
 clear hB
 obtain ⟨Bw4, hB⟩ : ∃ B, w4.heap.size = B := ⟨_, rfl⟩
 rw [hB] at HB16 ⊢
 try rw [hB] at HO0
 try rw [hB] at HO1
 try rw [hB] at HO2
 try rw [hB] at HO3
 try rw [hB] at HO4
 try rw [hB] at HO5
 try rw [hB] at HO6
 try rw [hB] at HO7
 try rw [hB] at HO8
 clear hB
 obtain ⟨Bw5, hB⟩ : ∃ B, w5.heap.size = B := ⟨_, rfl⟩
 rw [hB] at HB16 ⊢
 try rw [hB] at HO0
 try rw [hB] at HO1
 try rw [hB] at HO2
 try rw [hB] at HO3
 try rw [hB] at HO4
 try rw [hB] at HO5
 try rw [hB] at HO6
 try rw [hB] at HO7
 try rw [hB] at HO8
 clear hB
 obtain ⟨Bw6, hB⟩ : ∃ B, w6.heap.size = B := ⟨_, rfl⟩
 rw [hB] at HB16 ⊢
 try rw [hB] at HO0
 try rw [hB] at HO1
 try rw [hB] at HO2
 try rw [hB] at HO3
 try rw [hB] at HO4
 try rw [hB] at HO5
 try rw [hB] at HO6
 try rw [hB] at HO7
 try rw [hB] at HO8
 clear hB
 obtain ⟨Bw7, hB⟩ : ∃ B, w7.heap.size = B := ⟨_, rfl⟩
 rw [hB] at HB16 ⊢
 try rw [hB] at HO0
 try rw [hB] at HO1
 try rw [hB] at HO2
 try rw [hB] at HO3
 try rw [hB] at HO4
 try rw [hB] at HO5
 try rw [hB] at HO6
 try rw [hB] at HO7
 try rw [hB] at HO8
 clear hB
 obtain ⟨W8, hW⟩ : ∃ W, (w7.alloc (.cells #[.bool nq, .string sq, .bool mq, .string tq] 25)) = W := ⟨_, rfl⟩
 rw [hW] at HB16 HL16 ⊢
 clear hW
 haveI := cls_some W8
 obtain ⟨fq3_0, fq3_1, fq3_2, fq3_3⟩ := BC.all4 fun u : Cl W8 => ((HB16.out.bel u.h).2.2.2.2.2.1)
 obtain ⟨fq4_0, fq4_1, fq4_2, fq4_3⟩ := BC.all4 fun u : Cl W8 => ((HB16.out.bel u.h).2.2.2.2.1)
 obtain ⟨fq5_0, fq5_1, fq5_2, fq5_3⟩ := BC.all4 fun u : Cl W8 => ((HB16.out.bel u.h).2.2.2.1)
 obtain ⟨fq6_0, fq6_1, fq6_2, fq6_3⟩ := BC.all4 fun u : Cl W8 => ((HB16.out.bel u.h).2.2.1)
 obtain ⟨fq7_0, fq7_1, fq7_2, fq7_3⟩ := BC.all4 fun u : Cl W8 => ((HB16.out.bel u.h).2.1)
 obtain ⟨fq8_0, fq8_1, fq8_2, fq8_3⟩ := BC.all4 fun u : Cl W8 => ((HB16.out.bel u.h).1)
 obtain ⟨fq0_0, fq0_1, fq0_2, fq0_3⟩ := BC.all4 fun u : Cl W8 => ((HB16.out.bel u.h).2.2.2.2.2.2.2.2.1)
 refine wp_region_cls (by kernel_rfl) ?_
 iterate 30 (go_big_quiet_step (fail))
 go_big_quiet_step ((go_at_call 35; exact quiet_cls H7.out _))
 iterate 1 (go_big_quiet_step (fail))
 go_big_quiet_step ((go_at_call 36; exact quiet_cls H8.out _))
 iterate 3 (go_big_quiet_step (fail))
 go_big_quiet_step ((go_at_call 6; exact quiet_cls H9.out _))
 iterate 2 (go_big_quiet_step (fail))
 refine wpQuiet_nil ?_
 intro w9 hw9
 have hb : Below W8.heap.size W8 w9 := by obtain ⟨u, rfl⟩ := hw9; exact u.h
 clear hw9 this fq3_0 fq3_1 fq3_2 fq3_3 fq4_0 fq4_1 fq4_2 fq4_3 fq5_0 fq5_1 fq5_2 fq5_3 fq6_0 fq6_1 fq6_2 fq6_3 fq7_0 fq7_1 fq7_2 fq7_3 fq8_0 fq8_1 fq8_2 fq8_3 fq0_0 fq0_1 fq0_2 fq0_3
 obtain ⟨HL17, HB17⟩ := cameLB HL16 HB16 hb
 clear hb
 clear HL16 HB16
 go_wp2
 go_ret
 exact ⟨rfl, HL17.out⟩
theorem others_long2 (na ma : Bool) (sa ta : ByteArray) (nb mb : Bool) (sb tb : ByteArray) (hgz : ∀ x ∈ ([(na, sa, ma, ta), (nb, sb, mb, tb)] : List (Bool × ByteArray × Bool × ByteArray)), x.2.1.size ≤ maxLen ∧ x.2.2.2.size ≤ maxLen) (hgr : grQ 24 [(na, sa, ma, ta), (nb, sb, mb, tb)] = false) (n0 : Int) (hn1 : 40 < n0) (hn2 : decide (n0 ≤ 4096) = false) (s0 : ByteArray) (hl : (200 : Int) < s0.size) (w : World)
  (H1 : GivesV 6 #[] (.bool true))
  : Calls Tryz.prog 4 #[.agg #[.bool na, .string sa, .bool ma, .string ta], .agg #[.bool nb, .string sb, .bool mb, .string tb], .int .i64 n0, .string s0] w fun e w' => e = .returned (.bool true) ∧ Below w.heap.size w w' := by
 replace H1 := Lib.hid H1
 have HGZ := Lib.hid hgz
 clear hgz
 go_enter Tryz.func4, Tryz.ntmps4
 have HL0 := Lib.hid (Below.refl w.heap.size w)
 have HB0 := Lib.hid (show Bs [] w from trivial)
 have HO0 := Lib.hid (show w.heap.size ≤ w.heap.size from by have := HL0.out.size; first | omega | (simp at this; omega))
 obtain ⟨HL1, HB1⟩ := growLB HL0 HB0 (w.heap.size) #[.bool na, .string sa, .bool ma, .string ta] 25
 clear HL0 HB0
 have HO1 := Lib.hid (show w.heap.size < w.heap.size + 1 from by have := (HB1.out.1).lt; first | omega | (simp at this; omega))
 obtain ⟨HL2, HB2⟩ := growLB HL1 HB1 (w.heap.size + 1) #[.bool nb, .string sb, .bool mb, .string tb] 25
 clear HL1 HB1
 obtain ⟨fx0_0_2, fx0_1_2, fx0_2_2, fx0_3_2⟩ := (HB2.out.2.1).at4
 obtain ⟨fx1_0_2, fx1_1_2, fx1_2_2, fx1_3_2⟩ := (HB2.out.1).at4
 have HO2 := Lib.hid (show w.heap.size + 1 < w.heap.size + 1 + 1 from by have := (HB2.out.1).lt; first | omega | (simp at this; omega))
 obtain ⟨HL3, HB3⟩ := growLB HL2 HB2 (w.heap.size + 1 + 1) #[.bool na, .string sa, .bool ma, .string ta, .bool nb, .string sb, .bool mb, .string tb] 25
 clear HL2 HB2
 go_wp2_with fail
 refine (greatQ_box [(na, sa, ma, ta), (nb, sb, mb, tb)] (HB3.out.1) (show 2 ≤ 1000 by decide) HGZ.out).mono ?_
 rintro e w1 ⟨rfl, hb⟩
 obtain ⟨HL4, HB4⟩ := cameLB HL3 HB3 hb
 clear hb
 clear HL3 HB3 fx0_0_2 fx0_1_2 fx0_2_2 fx0_3_2 fx1_0_2 fx1_1_2 fx1_2_2 fx1_3_2
 go_wp2_with fail
 refine (H1.out _).mono ?_
 rintro e w2 ⟨rfl, hb⟩
 obtain ⟨HL5, HB5⟩ := cameLB HL4 HB4 hb
 clear hb
 clear HL4 HB4
 go_wp2
 go_ret
 exact ⟨rfl, HL5.out⟩
end Go.Proofs.Gv
