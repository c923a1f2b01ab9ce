/- The law AlphabeticTurned. -/
import Derived.Test.YtlbgkhjelbadmaaArvP
import Derived.Test.YtlbgkhjelbadmaaHcat
set_option linter.unusedSimpArgs false
set_option linter.unusedVariables false
namespace Go.Proofs.Gv
open Go Go.RowKit Go.Maps

@[go_sem] theorem run_max_zero4a {P : Program} {w : World} (ts : Array TypeId) (t : TypeId) : (Builtin.max_ ts t #[.int .i64 0, .int .i64 0, .int .i64 0, .int .i64 0]).run P w = .ok (.int .i64 0) w := by
  first
  | rfl
  | simp [Builtin.max_, go_sem]
theorem VL_rev (W : List Nat) : (VL W).reverse = VL W.reverse := by unfold VL; rw [List.map_reverse]
theorem VL_app (A B : List Nat) : VL A ++ VL B = VL (A ++ B) := by unfold VL; rw [List.map_append]
theorem sum_lt4 {W : List Nat} (h : ∀ z ∈ W, z < 2 ^ 64) (hl : W.length ≤ 6) : W.sum < 2 ^ 74 := sum_lt (N := 64) h (by omega)
set_option maxRecDepth 100000 in
set_option maxHeartbeats 8000000 in
theorem law_turned (w : World) (a : Option Addr) (ca : Nat) (La : List (Bool × ByteArray)) (hLa : La.length ≤ maxLen) (hza : ∀ x ∈ La, x.2.size ≤ maxLen) (hSa : Sl w a La) (haa : a = none → La = [] ∧ ca = 0) (hca : La.length ≤ ca ∧ ca ≤ maxLen)
    (b : Option Addr) (cb : Nat) (Lb : List (Bool × ByteArray)) (hLb : Lb.length ≤ maxLen) (hzb : ∀ x ∈ Lb, x.2.size ≤ maxLen) (hSb : Sl w b Lb) (hbb : b = none → Lb = [] ∧ cb = 0) (hcb : Lb.length ≤ cb ∧ cb ≤ maxLen) :
    Calls Try.prog 7 #[.slice a La.length ca, .slice b Lb.length cb] w fun e w' => e = .returned (.bool true) ∧ Below w.heap.size w w' := by
  have HVA := Lib.hid (fun W (h : Below w.heap.size w W) => valid_any a ca La hLa hza W (hSa.below h))
  have HVB := Lib.hid (fun W (h : Below w.heap.size w W) => valid_any b cb Lb hLb hzb W (hSb.below h))
  have HAW := Lib.hid (fun W => awake40_any W)
  have hla : (La.length : Int) ≤ 9223372036854775807 := by unfold maxLen at hLa; omega
  have hlb : (Lb.length : Int) ≤ 9223372036854775807 := by unfold maxLen at hLb; omega
  by_cases hva : vldA La = true
  case neg =>
    have hv' : vldA La = false := by simpa using hva
    rw [hv'] at HVA
    clear hva hv' hSa hSb hza hzb hLa hLb hca hcb haa hbb
    go_enter Try.func7, Try.ntmps7
    go_wp2_with fail
    refine (HVA.out w (Below.refl _ _)).mono ?_
    rintro e w1 ⟨rfl, hb1⟩
    go_wp2_with fail
    refine (HAW.out _).mono ?_
    rintro e w2 ⟨rfl, hb2⟩
    go_wp2
    go_ret
    exact ⟨rfl, bstep hb1 hb2⟩
  case pos =>
  rw [hva] at HVA
  by_cases hvb : vldA Lb = true
  case neg =>
    have hv' : vldA Lb = false := by simpa using hvb
    rw [hv'] at HVB
    clear hva hvb hv' hSa hSb hza hzb hLa hLb hca hcb haa hbb
    go_enter Try.func7, Try.ntmps7
    go_wp2_with fail
    refine (HVA.out w (Below.refl _ _)).mono ?_
    rintro e w1 ⟨rfl, hb1⟩
    have HB1 := Lib.hid hb1
    clear hb1
    go_wp2_with fail
    refine (HVB.out w1 HB1.out).mono ?_
    rintro e w2 ⟨rfl, hb2⟩
    have HB2 := Lib.hid (bstep HB1.out hb2)
    clear hb2
    go_wp2_with fail
    refine (HAW.out _).mono ?_
    rintro e w3 ⟨rfl, hb3⟩
    go_wp2
    go_ret
    exact ⟨rfl, bstep HB2.out hb3⟩
  case pos =>
  rw [hvb] at HVB
  by_cases h3a : 3 < La.length
  case pos =>
    have h3I : (3 : Int) < La.length := by omega
    clear hva hvb hSa hSb hza hzb hLa hLb hca hcb haa hbb h3a
    go_enter Try.func7, Try.ntmps7
    go_wp2_with fail
    refine (HVA.out w (Below.refl _ _)).mono ?_
    rintro e w1 ⟨rfl, hb1⟩
    have HB1 := Lib.hid hb1
    clear hb1
    go_wp2_with fail
    refine (HVB.out w1 HB1.out).mono ?_
    rintro e w2 ⟨rfl, hb2⟩
    have HB2 := Lib.hid (bstep HB1.out hb2)
    clear hb2
    go_wp2_with fail
    refine (HAW.out _).mono ?_
    rintro e w3 ⟨rfl, hb3⟩
    go_wp2
    go_ret
    exact ⟨rfl, bstep HB2.out hb3⟩
  case neg =>
  have h3aB : decide ((3 : Int) < La.length) = false := by simp; omega
  by_cases h3b : 3 < Lb.length
  case pos =>
    have h3I : (3 : Int) < Lb.length := by omega
    clear hva hvb hSa hSb hza hzb hLa hLb hca hcb haa hbb h3a h3b
    go_enter Try.func7, Try.ntmps7
    go_wp2_with fail
    refine (HVA.out w (Below.refl _ _)).mono ?_
    rintro e w1 ⟨rfl, hb1⟩
    have HB1 := Lib.hid hb1
    clear hb1
    go_wp2_with fail
    refine (HVB.out w1 HB1.out).mono ?_
    rintro e w2 ⟨rfl, hb2⟩
    have HB2 := Lib.hid (bstep HB1.out hb2)
    clear hb2
    go_wp2_with fail
    refine (HAW.out _).mono ?_
    rintro e w3 ⟨rfl, hb3⟩
    go_wp2
    go_ret
    exact ⟨rfl, bstep HB2.out hb3⟩
  case neg =>
  have h3bB : decide ((3 : Int) < Lb.length) = false := by simp; omega
  obtain ⟨Wa, rfl, h2a, h6a, -, hz8a⟩ := vld_ok hva
  obtain ⟨Wb, rfl, h2b, h6b, -, hz8b⟩ := vld_ok hvb
  have hzza := VLlt hz8a
  have hzzb := VLlt hz8b
  obtain ⟨Aa, rfl⟩ := hSa.some (by rw [VL_len]; omega)
  obtain ⟨Ab, rfl⟩ := hSb.some (by rw [VL_len]; omega)
  rw [VL_len] at h3a h3b hca hcb HVA HVB h3aB h3bB hla hlb ⊢
  rw [VL_len]
  have HSA := Lib.hid hSa
  have HSB := Lib.hid hSb
  have HCA := Lib.hid (fun W (h : Below w.heap.size w W) => cost_ok (some Aa) ca Wa h2a (by omega) hca.1 hca.2 hz8a W (hSa.below h))
  have HCB := Lib.hid (fun W (h : Below w.heap.size w W) => cost_ok (some Ab) cb Wb h2b (by omega) hcb.1 hcb.2 hz8b W (hSb.below h))
  obtain ⟨U, hU⟩ : ∃ U, Wa ++ Wb = U := ⟨_, rfl⟩
  have hUl : U.length = Wa.length + Wb.length := by rw [← hU, List.length_append]
  have hzU : ∀ z ∈ U, z < 2 ^ 64 := fun z hz => by
    rw [← hU] at hz
    rcases List.mem_append.1 hz with h | h
    · exact hzza z h
    · exact hzzb z h
  have hz8U : ∀ x ∈ VL U, x.2.size ≤ 8 := fun x hx => by
    rw [← hU, ← VL_app] at hx
    rcases List.mem_append.1 hx with h | h
    · exact hz8a x h
    · exact hz8b x h
  have hz8R : ∀ x ∈ VL U.reverse, x.2.size ≤ 8 := fun x hx => by
    rw [← VL_rev] at hx
    exact hz8U x (List.mem_reverse.1 hx)
  have hU4 : 4 ≤ U.length := by omega
  have hU6 : U.length ≤ 6 := by omega
  have HCU := Lib.hid (fun (g c : Nat) (h1 : U.length ≤ c) (h2 : c ≤ maxLen) W (h : Sl W (some ⟨g, 0, none⟩) (VL U)) => cost_ok (some ⟨g, 0, none⟩) c U (by omega) (by omega) h1 h2 hz8U W h)
  have HCR := Lib.hid (fun (g c : Nat) (h1 : U.length ≤ c) (h2 : c ≤ maxLen) W (h : Sl W (some ⟨g, 0, none⟩) (VL U.reverse)) => show Calls Try.prog 18 #[.slice (some ⟨g, 0, none⟩) U.length c] W fun e w' => e = .returned (.tuple #[.agg #[.bool false, .string (mg (alc U))], .int .i64 0]) ∧ Below W.heap.size W w' from by
    have := cost_ok (some ⟨g, 0, none⟩) c U.reverse (by rw [List.length_reverse]; omega) (by rw [List.length_reverse]; omega) (by rw [List.length_reverse]; exact h1) h2 hz8R W h
    rw [alc_rev (by omega), List.length_reverse] at this
    exact this)
  have hap : alc U ≤ alc Wa + alc Wb + U.sum := by rw [← hU]; exact alc_append (by omega) (by omega)
  have hsU := sum_lt4 hzU hU6
  have haU := alc_lt (by omega) (by omega) hzU
  have haA := alc_lt h2a (by omega) hzza
  have haB := alc_lt h2b (by omega) hzzb
  have HCC := Lib.hid (fun (Bc : Nat) W (hB : BC W Bc [.slice (some Aa) Wa.length ca, .slice (some Ab) Wb.length cb]) (h1 : Sl W (some Aa) (VL Wa)) (h2 : Sl W (some Ab) (VL Wb)) => show Calls Try.prog 36 #[.slice (some ⟨Bc, 0, none⟩) 2 2] W fun e w' => ∃ p c, e = .returned (.slice (some ⟨p, 0, none⟩) U.length c) ∧ U.length ≤ c ∧ c ≤ maxLen ∧ Sl w' (some ⟨p, 0, none⟩) (VL U) ∧ Below W.heap.size W w' from by
    have := concat_any Bc Aa Ab ca cb (VL Wa) (VL Wb) W (by rw [VL_len, VL_len]; exact hB) h1 h2 (by rw [VL_len, VL_len]; omega) (by rw [VL_len, VL_len]; omega)
    refine this.mono ?_
    rintro e w' ⟨v, rfl, ho, hg⟩
    rw [VL_len, VL_len, ← hUl, VL_app, hU] at ho
    obtain ⟨p, c, rfl, a1, a2, -, a4⟩ := OwnAt.of ho (by omega) (by rw [inV_len, VL_len])
    exact ⟨p, c, rfl, a1, a2, Sl.at_own a4, grown_below hg⟩)
  obtain ⟨C, hC⟩ : ∃ C, alc U = C := ⟨_, rfl⟩
  obtain ⟨X, hX⟩ : ∃ X, alc Wa = X := ⟨_, rfl⟩
  obtain ⟨Y, hY⟩ : ∃ Y, alc Wb = Y := ⟨_, rfl⟩
  obtain ⟨S, hS⟩ : ∃ S, U.sum = S := ⟨_, rfl⟩
  rw [hC, hX, hY, hS] at hap
  rw [hC] at HCU HCR haU
  rw [hX] at HCA haA
  rw [hY] at HCB haB
  rw [hS] at hsU
  have HSUM := Lib.hid hS
  have HAD := Lib.hid (fun W => show Calls Try.prog 25 #[.agg #[.bool false, .string (mg X)], .agg #[.bool false, .string (mg Y)]] W fun e w' => e = .returned (.agg #[.bool false, .string (mg (X + Y))]) ∧ Below W.heap.size W w' from by
    have := cAdd (VN_rp (z := X) (N := 136) haA (by omega)) (VN_rp (z := Y) (N := 136) haB (by omega)) W
    rwa [show (X : Int) + (Y : Int) = ((X + Y : Nat) : Int) by simp, Int.natAbs_natCast, show sgn ((X + Y : Nat) : Int) = false from decide_eq_false (by omega)] at this)
  have hXY : X + Y < 2 ^ 137 := by
    have : (2 : Nat) ^ 137 = 2 ^ 136 + 2 ^ 136 := by decide
    omega
  have HAT := Lib.hid (fun (i x : Nat) (hi : U[i]? = some x) W => show Calls Try.prog 25 #[.agg #[.bool false, .string (mg (X + Y + (U.take i).sum))], .agg #[.bool false, .string (mg x)]] W fun e w' => e = .returned (.agg #[.bool false, .string (mg (X + Y + (U.take (i + 1)).sum))]) ∧ Below W.heap.size W w' from by
    have h1 : (U.take i).sum ≤ S := by rw [← hS]; exact take_sum_le U i
    have h2 : X + Y + (U.take i).sum < 2 ^ 138 := by
      have : (2 : Nat) ^ 138 = 2 ^ 137 + 2 ^ 137 := by decide
      have : (2 : Nat) ^ 74 ≤ 2 ^ 137 := Nat.pow_le_pow_right (by decide) (by decide)
      omega
    have := cAdd (VN_rp (z := X + Y + (U.take i).sum) (N := 138) h2 (by omega)) (VN_rp (z := x) (N := 64) (hzU x (List.mem_of_getElem? hi)) (by omega)) W
    rw [take_sum_succ hi]
    rwa [show ((X + Y + (U.take i).sum : Nat) : Int) + (x : Int) = ((X + Y + ((U.take i).sum + x) : Nat) : Int) by omega, Int.natAbs_natCast, show sgn ((X + Y + ((U.take i).sum + x) : Nat) : Int) = false from decide_eq_false (by omega)] at this)
  have hfin : X + Y + S < 2 ^ 138 := by
    have : (2 : Nat) ^ 138 = 2 ^ 137 + 2 ^ 137 := by decide
    have : (2 : Nat) ^ 74 ≤ 2 ^ 137 := Nat.pow_le_pow_right (by decide) (by decide)
    omega
  have HCM := Lib.hid (fun W => cCmpN (x := C) (d := X + Y + S) 136 138 haU hfin (by decide) (by decide) W)
  obtain ⟨q, hq⟩ : ∃ q, cmpI (C : Int) ((X + Y + S : Nat) : Int) = q := ⟨_, rfl⟩
  have hq0 : q ≤ 0 := by
    rw [← hq]
    unfold cmpI
    split
    · omega
    · rw [if_neg (by omega)]; omega
  rw [hq] at HCM
  obtain ⟨n, hn⟩ : ∃ n, U.length = n := ⟨_, rfl⟩
  have HNN := Lib.hid hn
  rw [hn] at HCU HCR HCC hU4 hU6
  have heq : eqI false (mg C) false (mg C) = true := eq_mg C
  have HREV := Lib.hid (fun (Z : World) (g c : Nat) (hg : Z.heap.size ≤ g) (W : World) (hb : Below Z.heap.size Z W) (ho : OwnAt W g (inV (VL U))) => rev_any Z g c (VL U) (by rw [VL_len]; omega) (by rw [VL_len]; omega) hg W hb ho)
  rw [VL_len, hn] at HREV
  have HCL := Lib.hid (fun (g c : Nat) W (h : Sl W (some ⟨g, 0, none⟩) (VL U)) => cloneI_any ⟨g, 0, none⟩ c (VL U) (by rw [VL_len]; omega) (by rw [VL_len]; omega) W h)
  rw [VL_len, hn] at HCL
  clear hU hn hC hX hY hS hq hap hsU haU haA haB hfin hXY hz8U hz8R hzU hz8a hz8b hzza hzzb hva hvb hSa hSb hza hzb hLa hLb hca hcb haa hbb h3a h3b
  obtain ⟨na, hna⟩ : ∃ na, Wa.length = na := ⟨_, rfl⟩
  obtain ⟨nb, hnb⟩ : ∃ nb, Wb.length = nb := ⟨_, rfl⟩
  rw [hna] at HVA HCA HCC h3aB h2a h6a hla hUl ⊢
  rw [hnb] at HVB HCB HCC h3bB h2b h6b hlb hUl ⊢
  clear hna hnb
  go_enter Try.func7, Try.ntmps7
  go_wp2_with fail
  refine (HVA.out w (Below.refl _ _)).mono ?_
  rintro e w1 ⟨rfl, hb1⟩
  have HB1 := Lib.hid hb1
  clear hb1
  go_wp2_with fail
  refine (HVB.out w1 HB1.out).mono ?_
  rintro e w2 ⟨rfl, hb2⟩
  have HB2 := Lib.hid (bstep HB1.out hb2)
  clear hb2 HB1 HVA HVB
  have hp := BC.new w2 w2.heap.size #[.slice (some Aa) na ca, .slice (some Ab) nb cb] 32 rfl
  have hal : Below w2.heap.size w2 (w2.alloc (.cells #[.slice (some Aa) na ca, .slice (some Ab) nb cb] 32)) := (Below.refl _ w2).alloc (Nat.le_refl _) _
  have HB2a := Lib.hid (bstep HB2.out hal)
  have HX3 := Lib.hid (HCC.out w2.heap.size _ hp (HSA.out.below HB2a.out) (HSB.out.below HB2a.out))
  clear hp hal HCC
  go_wp2_with fail
  refine HX3.out.mono ?_
  rintro e w3 ⟨p3, c3, rfl, hc31, hc32, hs3, hb3⟩
  have HB3 := Lib.hid (bstep HB2a.out hb3)
  have HS3 := Lib.hid hs3
  have HC3 := Lib.hid (And.intro hc31 hc32)
  have HX4 := Lib.hid (HCL.out p3 c3 w3 hs3)
  clear hc31 hc32 hs3 hb3 HX3 HB2 HB2a
  go_wp2_with fail
  refine HX4.out.mono ?_
  rintro e w4 ⟨p4, c4, rfl, hc41, hc42, h43, ho4, hb4⟩
  have HC4 := Lib.hid (And.intro hc41 hc42)
  have HX5 := Lib.hid (HREV.out w3 p4 c4 h43 w4 hb4 ho4)
  clear hc41 hc42 h43 ho4 hb4 HX4
  go_wp2_with fail
  refine HX5.out.mono ?_
  rintro e w5 ⟨rfl, ho5, hb5⟩
  have HB5 := Lib.hid (bstep HB3.out hb5)
  have HS5 := Lib.hid (HS3.out.below hb5)
  have HR5 := Lib.hid (show Sl w5 (some ⟨p4, 0, none⟩) (VL U.reverse) from by rw [← VL_rev]; exact Sl.at_own ho5)
  have HX6 := Lib.hid (HCU.out p3 c3 HC3.out.1 HC3.out.2 w5 HS5.out)
  clear ho5 hb5 HX5 HB3 HS3
  go_wp2_with fail
  refine HX6.out.mono ?_
  rintro e w6 ⟨rfl, hb⟩
  have hp := BC.new w6 w6.heap.size #[.bool false, .string (mg C)] 37 rfl
  have hal : Below w6.heap.size w6 (w6.alloc (.cells #[.bool false, .string (mg C)] 37)) := (Below.refl _ _).alloc (Nat.le_refl _) _
  have HB6 := Lib.hid (bstep (bstep HB5.out hb) hal)
  have HS5n := Lib.hid ((HS5.out.below hb).below hal)
  clear HS5
  have HS5 := HS5n
  clear HS5n
  have HR5n := Lib.hid ((HR5.out.below hb).below hal)
  clear HR5
  have HR5 := HR5n
  clear HR5n
  have HP6 := Lib.hid hp
  have HX7 := Lib.hid (HCR.out p4 c4 HC4.out.1 HC4.out.2 _ HR5.out)
  clear hp hal hb HX6 HB5
  go_wp2_with fail
  obtain ⟨b6, hB⟩ : ∃ b, w6.heap.size = b := ⟨_, rfl⟩
  rw [hB] at HP6 ⊢
  clear hB
  refine HX7.out.mono ?_
  rintro e w7 ⟨rfl, hb⟩
  have hp := BC.new w7 w7.heap.size #[.bool false, .string (mg C)] 37 rfl
  have hal : Below w7.heap.size w7 (w7.alloc (.cells #[.bool false, .string (mg C)] 37)) := (Below.refl _ _).alloc (Nat.le_refl _) _
  have HB7 := Lib.hid (bstep (bstep HB6.out hb) hal)
  have HP6n := Lib.hid ((HP6.out.below hb).below hal)
  clear HP6
  have HP6 := HP6n
  clear HP6n
  have HS5n := Lib.hid ((HS5.out.below hb).below hal)
  clear HS5
  have HS5 := HS5n
  clear HS5n
  have HP7 := Lib.hid hp
  have HX8 := Lib.hid (HCA.out _ HB7.out)
  clear hp hal hb HX7 HB6
  go_wp2_with fail
  obtain ⟨b7, hB⟩ : ∃ b, w7.heap.size = b := ⟨_, rfl⟩
  rw [hB] at HP7 ⊢
  clear hB
  refine HX8.out.mono ?_
  rintro e w8 ⟨rfl, hb⟩
  have hp := BC.new w8 w8.heap.size #[.bool false, .string (mg X)] 37 rfl
  have hal : Below w8.heap.size w8 (w8.alloc (.cells #[.bool false, .string (mg X)] 37)) := (Below.refl _ _).alloc (Nat.le_refl _) _
  have HB8 := Lib.hid (bstep (bstep HB7.out hb) hal)
  have HP6n := Lib.hid ((HP6.out.below hb).below hal)
  clear HP6
  have HP6 := HP6n
  clear HP6n
  have HP7n := Lib.hid ((HP7.out.below hb).below hal)
  clear HP7
  have HP7 := HP7n
  clear HP7n
  have HS5n := Lib.hid ((HS5.out.below hb).below hal)
  clear HS5
  have HS5 := HS5n
  clear HS5n
  have HP8 := Lib.hid hp
  have HX9 := Lib.hid (HCB.out _ HB8.out)
  clear hp hal hb HX8 HB7
  go_wp2_with fail
  obtain ⟨b8, hB⟩ : ∃ b, w8.heap.size = b := ⟨_, rfl⟩
  rw [hB] at HP8 ⊢
  clear hB
  refine HX9.out.mono ?_
  rintro e w9 ⟨rfl, hb⟩
  have hp := BC.new w9 w9.heap.size #[.bool false, .string (mg Y)] 37 rfl
  have hal : Below w9.heap.size w9 (w9.alloc (.cells #[.bool false, .string (mg Y)] 37)) := (Below.refl _ _).alloc (Nat.le_refl _) _
  have HB9 := Lib.hid (bstep (bstep HB8.out hb) hal)
  have HQ6 := Lib.hid ((HP6.out.below hb).below hal)
  have HQ7 := Lib.hid ((HP7.out.below hb).below hal)
  have HQ8 := Lib.hid ((HP8.out.below hb).below hal)
  have HS9 := Lib.hid ((HS5.out.below hb).below hal)
  have HQ9 := Lib.hid hp
  clear hp hal hb HX9 HB8 HP6 HP7 HP8 HS5
  obtain ⟨Z9, hZ9⟩ : ∃ Z, w9.alloc (.cells #[.bool false, .string (mg Y)] 37) = Z := ⟨_, rfl⟩
  rw [hZ9] at HQ6 HQ7 HQ8 HQ9 HS9 HB9
  obtain ⟨b9, hb9⟩ : ∃ b, w9.heap.size = b := ⟨_, rfl⟩
  rw [hb9] at HQ9
  have x0 := HQ8.out.at 0 _ rfl
  have x1 := HQ8.out.at 1 _ rfl
  have y0 := HQ9.out.at 0 _ rfl
  have y1 := HQ9.out.at 1 _ rfl
  go_wp2_with fail
  refine (HAD.out _).mono ?_
  rintro e w10 ⟨rfl, hb⟩
  have hp := BC.new w10 w10.heap.size #[.bool false, .string (mg (X + Y))] 37 rfl
  have hal : Below w10.heap.size w10 (w10.alloc (.cells #[.bool false, .string (mg (X + Y))] 37)) := (Below.refl _ _).alloc (Nat.le_refl _) _
  have HB10 := Lib.hid (bstep HB9.out hb)
  have HR6 := Lib.hid (HQ6.out.below hb)
  have HR7 := Lib.hid (HQ7.out.below hb)
  have HS10 := Lib.hid (HS9.out.below hb)
  have HM := Lib.hid hp
  have HBL := Lib.hid hal
  clear hp hal hb x0 x1 y0 y1 HQ6 HQ7 HQ8 HQ9 HS9 HB9 hZ9 hb9 HAD
  go_wp2_with fail
  have hmm : X + Y = X + Y + (U.take 0).sum := by simp
  obtain ⟨Z0, hZ0⟩ : ∃ Z, w10.alloc (.cells #[.bool false, .string (mg (X + Y))] 37) = Z := ⟨_, rfl⟩
  rw [hZ0] at HM HBL ⊢
  obtain ⟨B, hBB⟩ : ∃ b, w10.heap.size = b := ⟨_, rfl⟩
  have HBB := Lib.hid hBB
  rw [hBB] at HM HBL ⊢
  rw [hmm] at HM
  clear hZ0 hBB hmm
  go_loopg [70] (n + 1) (fun gg v70 wr => ∃ i : Nat, v70 = .int .i64 (i : Int) ∧ i ≤ n ∧ n - i < gg ∧ BC wr B [.bool false, .string (mg (X + Y + (U.take i).sum))] ∧ Below B w10 wr)
  case atStart => exact ⟨0, rfl, Nat.zero_le _, by omega, HM.out, HBL.out⟩
  case round =>
    obtain ⟨i, rfl, hi, hig, h5, hb⟩ := hrel
    clear HM HBL
    have HM := Lib.hid h5
    have HB := Lib.hid hb
    have HG := Lib.hid hig
    clear h5 hb hig
    have HBW := Lib.hid (show Below w10.heap.size w10 wr by rw [HBB.out]; exact HB.out)
    by_cases hlt : i < n
    · have hltI : (i : Int) < n := by omega
      obtain ⟨x, hx⟩ : ∃ x, U[i]? = some x := ⟨U[i]'(by rw [HNN.out]; exact hlt), List.getElem?_eq_getElem _⟩
      obtain ⟨A', eA, c0, c1⟩ := (HS10.out.below HBW.out) i false (mg x) (VL_at hx)
      cases eA
      rw [addr0] at c0 c1
      have HA := Lib.hid (HAT.out i x hx)
      obtain ⟨s1, hs1⟩ : ∃ s, X + Y + (U.take i).sum = s := ⟨_, rfl⟩
      obtain ⟨s2, hs2⟩ : ∃ s, X + Y + (U.take (i + 1)).sum = s := ⟨_, rfl⟩
      rw [hs1, hs2] at HA
      rw [hs1] at HM
      have HS2 := Lib.hid hs2
      have HM1 := Lib.hid (HM.out.alloc (.cells #[.bool false, .string (mg x)] 37))
      have HT1 := Lib.hid (BC.new wr wr.heap.size #[.bool false, .string (mg x)] 37 rfl)
      have HB1 := Lib.hid (HB.out.alloc (by have := HB.out.size; have := HBB.out; omega) (.cells #[.bool false, .string (mg x)] 37))
      obtain ⟨V, hV⟩ : ∃ V, wr.alloc (.cells #[.bool false, .string (mg x)] 37) = V := ⟨_, rfl⟩
      rw [hV] at HM1 HT1 HB1
      obtain ⟨bt, hbt⟩ : ∃ b, wr.heap.size = b := ⟨_, rfl⟩
      rw [hbt] at HT1
      have x0 := HM1.out.at 0 _ rfl
      have x1 := HM1.out.at 1 _ rfl
      have y0 := HT1.out.at 0 _ rfl
      have y1 := HT1.out.at 1 _ rfl
      clear hs1 hs2 hx
      go_wp2_with fail
      refine (HA.out _).mono ?_
      rintro e V2 ⟨rfl, hb2⟩
      have HM2 := Lib.hid (HM1.out.below hb2)
      have HB2 := Lib.hid (HB1.out.grown (Below.grows hb2) (by rw [← HBB.out]; exact HB1.out.size) (fun k e => by cases e))
      clear hb2 x0 x1 y0 y1 hV hbt
      have x0 := HM2.out.at 0 _ rfl
      have x1 := HM2.out.at 1 _ rfl
      have z0 := HM2.out.z 0 (by simp)
      have z1 := HM2.out.z 1 (by simp)
      go_wp2_with fail
      go_roundg (n - i)
      case rel =>
        refine ⟨i + 1, by go_num, by omega, by omega, ?_, (HB2.out.setCell (p := ⟨_, 0, none⟩) (by simp) _).setCell (p := ⟨_, 1, none⟩) (by simp) _⟩
        rw [HS2.out]
        exact HM2.out.set2 0 1 _ _ (by simp) (by simp)
      case measure => have := HG.out; omega
    · obtain rfl : n = i := by omega
      have hB : decide ((n : Int) < n) = false := by simp
      have HSS := Lib.hid (show X + Y + (U.take n).sum = X + Y + S from by rw [← HNN.out, List.take_length, HSUM.out])
      rw [HSS.out] at HM
      have x0 := HM.out.at 0 _ rfl
      have x1 := HM.out.at 1 _ rfl
      have y0 := (HR6.out.below HBW.out).at 0 _ rfl
      have y1 := (HR6.out.below HBW.out).at 1 _ rfl
      have t0 := (HR7.out.below HBW.out).at 0 _ rfl
      have t1 := (HR7.out.below HBW.out).at 1 _ rfl
      obtain ⟨D, hD⟩ : ∃ D, X + Y + S = D := ⟨_, rfl⟩
      rw [hD] at HCM x1
      go_wp2_with fail
      refine (HCM.out _).mono ?_
      rintro e w11 ⟨rfl, hb⟩
      have HB11 := Lib.hid (bstep (bstep HB10.out HBW.out) hb)
      clear hb
      go_wp2_with fail
      refine (HAW.out _).mono ?_
      rintro e w12 ⟨rfl, hb⟩
      go_wp2
      go_ret
      exact ⟨rfl, bstep HB11.out hb⟩
end Go.Proofs.Gv
