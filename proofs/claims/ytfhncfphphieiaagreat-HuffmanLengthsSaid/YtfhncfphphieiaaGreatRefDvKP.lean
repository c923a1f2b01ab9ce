import Derived.Test.YtfhncfphphieiaaGreatRefDivNP
set_option maxHeartbeats 4000000
set_option maxRecDepth 100000
set_option linter.unusedSimpArgs false
set_option linter.unusedVariables false
namespace Go.Proofs.Gv
open Go Go.RowKit
theorem mg_size_pow {y k : Nat} (hk : k ≤ 8) : (mg (y * 2 ^ k)).size ≤ (mg y).size + 1 := by
 have h := bv_lt (byt y)
 rw [bv_byt, ← size_mgL] at h
 refine size_mg ?_
 rw [Nat.pow_succ]
 have : 2 ^ k ≤ 2 ^ 8 := Nat.pow_le_pow_right (by decide) hk
 exact Nat.lt_of_lt_of_le (Nat.mul_lt_mul_of_pos_right h (Nat.pow_pos (by decide))) (Nat.mul_le_mul_left _ this)
theorem bit_add {d k : Nat} (h : 2 ^ k ≤ 128) (hd : d < 256) : wrap64 ((d : Int) + wrap64 ((2 : Int) ^ k)) = ((d + 2 ^ k : Nat) : Int) := by
 have e : ((2 : Int) ^ k) = ((2 ^ k : Nat) : Int) := by rw [Int.natCast_pow]; rfl
 rw [e]
 obtain ⟨p, hp⟩ : ∃ p, 2 ^ k = p := ⟨_, rfl⟩
 rw [hp] at h ⊢
 unfold wrap64
 omega
theorem rdivMag_any (x y : Nat) (w : World) (hy : 0 < y) (hxs : (mg x).size ≤ 90000) (hys : (mg y).size ≤ 90000) :
  Calls Tryz.prog 134 #[.string (mg x), .string (mg y)] w fun e w' => e = .returned (.tuple #[.string (mg (x / y)), .string (mg (x % y))]) ∧ Below w.heap.size w w' := by
 obtain ⟨n, hn⟩ : ∃ n, (mg x).size = n := ⟨_, rfl⟩
 have hmk := mk_bytes (n : Int) n rfl (by omega)
 have BA := Lib.hid (fun k (h : k < (mg x).size) => by have := byte_at (mg x) k h; rwa [bv_mg] at this)
 have HXL : Hid (x < 256 ^ n) := by unfold Hid; rw [← hn]; have := bv_lt (byt x); rwa [bv_byt, ← size_mgL] at this
 have HN := Lib.hid hn
 go_enter Tryz.func134, Tryz.ntmps134
 have HMK := Lib.hid hmk
 clear hmk
 go_wp2
 obtain ⟨W, hW⟩ : ∃ W, w.alloc (.cells #[.string (mg y), .string ⟨#[]⟩, .string ⟨#[]⟩, .string ⟨#[]⟩, .string ⟨#[]⟩, .string ⟨#[]⟩, .string ⟨#[]⟩, .string ⟨#[]⟩] 154) = W := ⟨_, rfl⟩
 have hrow : W.rowIs w.heap.size 154 8 (timF y 1) := by
  rw [← hW]
  refine World.rowIs_alloc w _ _ _ fun i hi => ?_
  have : i < 8 := by simpa using hi
  match i, this with
  | 0, _ => simp [timF]
  | 1, _ | 2, _ | 3, _ | 4, _ | 5, _ | 6, _ | 7, _ => rfl
 have hB : Below w.heap.size w W := by rw [← hW]; exact (Below.refl _ _).alloc (Nat.le_refl _) _
 rw [hW]
 clear hW
 go_loopg [7] 9 (fun gg v7 wr => ∃ j : Nat, v7 = .int .i64 ((j : Int) + 1) ∧ j ≤ 7 ∧ 8 - j ≤ gg ∧ wr.rowIs w.heap.size 154 8 (timF y (j + 1)) ∧ Below w.heap.size w wr)
 case atStart => exact ⟨0, rfl, by omega, by omega, hrow, hB⟩
 case round =>
  clear hrow hB
  obtain ⟨j, rfl, hj, hm, hrow, hbl⟩ := hrel
  have HR := Lib.hid hrow
  have HBL := Lib.hid hbl
  by_cases hj7 : j < 7
  ·have hjI : (j : Int) + 1 < 8 := by omega
   have hoc := hrow.cell (i := j) (by omega)
   unfold timF at hoc
   rw [if_pos (by omega)] at hoc
   have HA := Lib.hid (fun X => show Calls Tryz.prog 48 #[.string (mg (y * 2 ^ j)), .string (mg (y * 2 ^ j))] X (fun e w' => e = .returned (.string (mg (y * 2 ^ (j + 1)))) ∧ Below X.heap.size X w') from by
    have hs := mg_size_pow (y := y) (k := j) (by omega)
    have := raddMag_any (mg (y * 2 ^ j)) (mg (y * 2 ^ j)) X (by omega) (by omega)
    rw [bv_mg, ← Nat.two_mul, show 2 * (y * 2 ^ j) = y * 2 ^ (j + 1) by rw [Nat.pow_succ, Nat.mul_left_comm, Nat.mul_comm 2]] at this
    exact this)
   clear hrow hbl
   go_wp2_with fail
   have HOC := Lib.hid hoc
   clear hoc
   refine wp_region_front 11 zvI (by kernel_rfl) shI (by kernel_rfl) (by kernel_rfl) (zvI_alloc _ (by kernel_rfl)) (shI_store _ (by kernel_rfl)) ?_
   intro mm BW hm1 hm2 hBW
   haveI := clm_some mm BW
   have fq := fun u : Clm mm BW => Clm.cell hm1 hBW u HOC.out
   simp only [frontOf, unmade, List.take_succ_cons, List.take_zero, List.map_cons, List.map_nil]
   iterate 9 (go_big_quiet_step (fail))
   go_big_quiet_step ((go_at_call 48; exact quiet_clm hm2 HA.out _))
   go_big_quiet_step (fail)
   refine wpQuiet_nil ?_
   refine ⟨List.forall_mem_nil _, ?_⟩
   intro γ w1 hb hF
   clear hF hBW this hm1 hm2 fq
   clear BW mm
   simp only [madesFrom, Facts, patch, List.take_succ_cons, List.take_zero, List.drop_succ_cons, List.drop_zero]
   have HR1 := Lib.hid (HR.out.of_block (hb.block _ HR.out.lt))
   have HB1 := Lib.hid (HBL.out.trans (hb.mono HBL.out.size))
   have oc := HR1.out.cell (i := j + 1) (by omega)
   have of' := HR1.out.frozen (j + 1)
   clear hb γ
   go_wp2
   go_roundg (8 - (j + 1))
   case rel =>
    refine ⟨j + 1, by go_num, by omega, by omega, (HR1.out.set (j + 1) _).congr (fun i hi => ?_), HB1.out.setCell (p := ⟨w.heap.size, j + 1, none⟩) (Nat.le_refl _) _⟩
    unfold timF
    by_cases e : i = j + 1
    ·rw [if_pos e, if_pos (by omega), e]
    ·rw [if_neg e]
     by_cases e2 : i < j + 1
     ·rw [if_pos e2, if_pos (by omega)]
     ·rw [if_neg e2, if_neg (by omega)]
   case measure => omega
  ·have hjB : decide ((j : Int) + 1 < 8) = false := decide_eq_false (by omega)
   have hjB2 : decide (j + 1 < 8) = false := decide_eq_false (by omega)
   obtain rfl : j = 7 := by omega
   have hmk := HMK.out
   clear hrow hbl hj7 hj hm
   go_wp2
   clear hmk hjB hjB2
   have hrowQ : (wr.alloc (.cells (madeCells #[.int .u8 0] n) 5)).rowIs wr.heap.size 5 n (catF (x / y) n 0) := (World.rowIs_made wr _ n _).congr fun j hj => by unfold catF; rw [if_neg (by omega)]; rfl
   have hrowT := HR.out.alloc (.cells (madeCells #[.int .u8 0] n) 5)
   have hbT : Below w.heap.size w (wr.alloc (.cells (madeCells #[.int .u8 0] n) 5)) := HBL.out.alloc HBL.out.size _
   have hgT := HBL.out.size
   have hlt := HR.out.lt
   obtain ⟨Q, hQ⟩ : ∃ Q, wr.heap.size = Q := ⟨_, rfl⟩
   obtain ⟨W2, hW2⟩ : ∃ W2, wr.alloc (.cells (madeCells #[.int .u8 0] n) 5) = W2 := ⟨_, rfl⟩
   rw [hQ] at hrowQ hgT hlt ⊢
   rw [hW2] at hrowQ hrowT hbT ⊢
   clear hW2 HR HBL hQ
   go_loopg [9, 10] (n + 1) (fun gg v9 v10 wr => ∃ i : Nat, v10 = .int .i64 i ∧ i ≤ n ∧ n + 1 - i ≤ gg ∧ v9 = .string (mg (x / 256 ^ (n - i) % y)) ∧ wr.rowIs w.heap.size 154 8 (timF y (7 + 1)) ∧ wr.rowIs Q 5 n (catF (x / y) n i) ∧ Below w.heap.size w wr)
   case atStart => exact ⟨0, rfl, by omega, by omega, by rw [Nat.sub_zero, Nat.div_eq_of_lt HXL.out, Nat.zero_mod, mg_zero], hrowT, hrowQ, hbT⟩
   case round =>
    clear hrowT hrowQ hbT
    obtain ⟨i, rfl, hi, hmi, rfl, hrT, hrQ, hbl⟩ := hrel
    have HT := Lib.hid hrT
    have HQ := Lib.hid hrQ
    have HBL := Lib.hid hbl
    clear hrT hrQ hbl
    by_cases hin : i < n
    ·have hiI : (i : Int) < n := by omega
     obtain ⟨m, hm⟩ : ∃ m, n - 1 - i = m := ⟨_, rfl⟩
     have HM := Lib.hid (show n - i = m + 1 by omega)
     obtain ⟨c, hc⟩ : ∃ c, 256 * (x / 256 ^ (m + 1) % y) + x / 256 ^ m % 256 = c := ⟨_, rfl⟩
     have htr := fun X => trim_next (x := x) (y := y) hy hn hin hm hxs hys X
     rw [hc] at htr
     have HTR := Lib.hid htr
     clear htr
     have hcy := rem_next x y m
     obtain ⟨hq1, hq2⟩ := quo_next (x := x) (m := m) hy
     rw [hc] at hcy hq1 hq2
     have HCY := Lib.hid hcy
     have HQ1 := Lib.hid hq1
     have HQ2 := Lib.hid hq2
     clear hc hcy hq1 hq2
     have hcs : (mg (x / 256 ^ (n - i) % y)).size ≤ 90000 := Nat.le_trans (mg_mono (Nat.le_of_lt (Nat.mod_lt _ hy))) hys
     go_wp2_with (go_at_call 75; refine (HTR.out _).mono ?_; rintro e w1 ⟨rfl, rfl⟩)
     go_loopg [9, 11, 12] 9 (fun gg v9 v11 v12 wi => ∃ j : Nat, v12 = .int .i64 (7 - (j : Int)) ∧ j ≤ 8 ∧ 9 - j ≤ gg ∧ v9 = .string (mg (c - dl (c / y) j * y)) ∧ v11 = .int .i64 (dl (c / y) j : Nat) ∧ wi.rowIs w.heap.size 154 8 (timF y (7 + 1)) ∧ wi.rowIs Q 5 n (catF (x / y) n i) ∧ Below w.heap.size w wi)
     case atStart => exact ⟨0, by simp, by omega, by omega, by rw [dl_zero HQ2.out]; simp, by rw [dl_zero HQ2.out]; rfl, HT.out, HQ.out, HBL.out⟩
     case round =>
      clear HT HQ HBL
      obtain ⟨j, rfl, hj, hmj, rfl, rfl, hrT, hrQ, hbl⟩ := hrel
      have HT := Lib.hid hrT
      have HQ := Lib.hid hrQ
      have HBL := Lib.hid hbl
      have hdl : dl (c / y) j < 256 := Nat.lt_of_le_of_lt (dl_le _ _) HQ2.out
      by_cases hj8 : j < 8
      ·obtain ⟨k, hk⟩ : ∃ k, j + k = 7 := ⟨7 - j, by omega⟩
       rw [show (7 : Int) - j = k by omega]
       have hk8 : (k : Int) < 8 := by omega
       have hk0 : (0 : Int) ≤ k := by omega
       have hoc := hrT.cell (i := k) (by omega)
       unfold timF at hoc
       rw [if_pos (by omega)] at hoc
       have hpw : 2 ^ k ≤ 128 := Nat.le_trans (Nat.pow_le_pow_right (by decide) (show k ≤ 7 by omega)) (by decide)
       have hsz := mg_size_pow (y := y) (k := k) (by omega)
       have hrs : (mg (c - dl (c / y) j * y)).size ≤ 90001 := by
        refine Nat.le_trans (mg_mono (Nat.sub_le _ _)) ?_
        have h1 : c < 256 * y := by have := HQ2.out; rwa [Nat.div_lt_iff_lt_mul hy] at this
        have h2 := mg_size_pow (y := y) (k := 8) (by omega)
        exact Nat.le_trans (mg_mono (show c ≤ y * 2 ^ 8 by omega)) (by omega)
       clear hrT hrQ hbl
       by_cases hge : y * 2 ^ k ≤ c - dl (c / y) j * y
       ·have HCM := Lib.hid (fun X => rcmp_any (c - dl (c / y) j * y) (y * 2 ^ k) X (by omega) (by omega))
        have hcv : decide (0 ≤ cmpI ((c - dl (c / y) j * y : Nat) : Int) ((y * 2 ^ k : Nat) : Int)) = true := by
         rw [decide_eq_true_iff]; unfold cmpI; rw [if_neg (by omega)]; split <;> omega
        obtain ⟨cv, hcv2⟩ : ∃ cv, cmpI ((c - dl (c / y) j * y : Nat) : Int) ((y * 2 ^ k : Nat) : Int) = cv := ⟨_, rfl⟩
        rw [hcv2] at HCM hcv
        have HSB := Lib.hid (fun X => show Calls Tryz.prog 50 #[.string (mg (c - dl (c / y) j * y)), .string (mg (y * 2 ^ k))] X (fun e w' => e = .returned (.string (mg (c - dl (c / y) (j + 1) * y))) ∧ Below X.heap.size X w') from by
         have := rsubMag_any (mg (c - dl (c / y) j * y)) (mg (y * 2 ^ k)) X (by omega) (mg_mono hge) (by rw [bv_mg, bv_mg]; exact hge)
         rw [bv_mg, bv_mg, (dl_sub hy hk hge).2] at this
         exact this)
        have HD := Lib.hid (dl_sub hy hk hge).1
        clear hge hcv2 hsz hrs
        go_wp2_with (first | (go_at_call 49; refine (HCM.out _).mono ?_; rintro e w1 ⟨rfl, rfl⟩) | (go_at_call 50; refine (HSB.out _).mono ?_; rintro e w1 ⟨rfl, hb⟩))
        have HT2 := Lib.hid (HT.out.of_block (hb.block _ HT.out.lt))
        have HQ2' := Lib.hid (HQ.out.of_block (hb.block _ HQ.out.lt))
        have HB2 := Lib.hid (HBL.out.trans (hb.mono HBL.out.size))
        clear hb
        go_roundg (9 - (j + 1))
        case rel => exact ⟨j + 1, by congr 1; omega, by omega, Nat.le_refl _, rfl, by rw [bit_add hpw hdl, HD.out], HT2.out, HQ2'.out, HB2.out⟩
        case measure => omega
       ·have HCM := Lib.hid (fun X => rcmp_any (c - dl (c / y) j * y) (y * 2 ^ k) X (by omega) (by omega))
        have hcv : decide (0 ≤ cmpI ((c - dl (c / y) j * y : Nat) : Int) ((y * 2 ^ k : Nat) : Int)) = false := by
         rw [decide_eq_false_iff_not]; unfold cmpI; rw [if_pos (by omega)]; omega
        obtain ⟨cv, hcv2⟩ : ∃ cv, cmpI ((c - dl (c / y) j * y : Nat) : Int) ((y * 2 ^ k : Nat) : Int) = cv := ⟨_, rfl⟩
        rw [hcv2] at HCM hcv
        have HD := Lib.hid (dl_keep hy hk hge)
        clear hge hcv2 hsz hrs
        go_wp2_with (go_at_call 49; refine (HCM.out _).mono ?_; rintro e w1 ⟨rfl, rfl⟩)
        go_roundg (9 - (j + 1))
        case rel => exact ⟨j + 1, by congr 1; omega, by omega, Nat.le_refl _, by rw [HD.out], by rw [HD.out], HT.out, HQ.out, HBL.out⟩
        case measure => omega
      ·obtain rfl : j = 8 := by omega
       have h7 : decide ((0 : Int) ≤ 7 - ((8 : Nat) : Int)) = false := by decide
       have h7' : decide ((0 : Int) ≤ 7 - 8) = false := by decide
       have he8 := dl_eight (c / y)
       rw [he8] at hdl ⊢
       have HR := Lib.hid (show c - c / y * y = x / 256 ^ m % y by rw [← HCY.out, Nat.mod_eq_sub_mul_div, Nat.mul_comm])
       have hqb : (wr.rowIs Q 5 n (catF (x / y) n i)) := HQ.out
       have qc := hqb.cell (i := i) hin
       unfold catF at qc
       have qf := hqb.frozen i
       obtain ⟨E, hE⟩ : ∃ E, c / y = E := ⟨_, rfl⟩
       rw [hE] at hdl HR HQ1 ⊢
       have hw8 : IntKind.u8.wrap (E : Int) = (E : Int) := by rw [IntKind.wrap_u8]; omega
       clear hrT hrQ hbl hqb he8 hE
       go_wp2
       have HQS := Lib.hid ((HQ.out.set i (.int .u8 (E : Nat))).congr (g := catF (x / y) n (i + 1)) (fun jj hjj => by
        unfold catF
        by_cases e : jj = i
        ·rw [if_pos e, if_pos (by omega), e, HQ1.out]; congr 3; omega
        ·rw [if_neg e]
         by_cases e2 : jj < i
         ·rw [if_pos e2, if_pos (by omega)]
         ·rw [if_neg e2, if_neg (by omega)]))
       go_roundg (n + 1 - (i + 1))
       case rel => exact ⟨i + 1, by go_num, by omega, Nat.le_refl _, by rw [HR.out, show n - (i + 1) = m by have := HM.out; omega], HT.out.setOther (show w.heap.size ≠ Q by omega) _, HQS.out, HBL.out.setCell (p := ⟨Q, i, none⟩) hgT _⟩
       case measure => omega
    ·have hinB : decide ((i : Int) < n) = false := decide_eq_false (by omega)
     have hinB2 : decide (i < n) = false := decide_eq_false hin
     obtain rfl : i = n := by omega
     have hz : x / y < 256 ^ i := Nat.lt_of_le_of_lt (Nat.div_le_self _ _) HXL.out
     have hcat : wr.rowIs Q 5 i (sumF (x / y) i i) := HQ.out.congr fun j hj => by
      unfold catF sumF; rw [if_pos (by omega), if_pos (by omega)]; rfl
     have hcv := conv_bytes hcat
     have HTR := Lib.hid (trim_bytes hz (by omega))
     have HXY := Lib.hid (show x / 256 ^ (i - i) % y = x % y by rw [Nat.sub_self, Nat.pow_zero, Nat.div_one])
     clear hz hcat hin
     go_wp2_with (go_at_call 75; refine (HTR.out _).mono ?_; rintro e w1 ⟨rfl, rfl⟩)
     go_ret2
     exact ⟨rfl, HBL.out⟩
structure DvSt (w W : World) (b7 : Nat) (n1 : Bool) (s1 : ByteArray) (n2 : Bool) (s2 : ByteArray) (n7 : Bool) (s7 : ByteArray) (n8 : Bool) (s8 : ByteArray) : Prop where
 be : Below w.heap.size w W
 x0 : Bx W w.heap.size n1 s1
 x1 : Bx W (w.heap.size + 1) n2 s2
 x2 : Bx W (w.heap.size + 1 + 1) false ⟨#[]⟩
 x3 : Bx W (w.heap.size + 1 + 1 + 1) false ⟨#[]⟩
 x7 : Bx W b7 n7 s7
 x8 : Bx W (b7 + 1) n8 s8
 lt : w.heap.size + 3 < b7
theorem DvSt.below {w W W1 W' : World} {b7 : Nat} {n1 n2 n7 n8 : Bool} {s1 s2 s7 s8 : ByteArray} (h : DvSt w W b7 n1 s1 n2 s2 n7 s7 n8 s8) (hb : Below W1.heap.size W1 W') (e1 : W1.heap = W.heap := by rfl) (e2 : W1.os = W.os := by rfl) (e3 : W1.tape = W.tape := by rfl) (e4 : W1.output = W.output := by rfl) : DvSt w W' b7 n1 s1 n2 s2 n7 s7 n8 s8 := by
 have hb' : Below W.heap.size W W' := ⟨hb.os.trans e2, hb.tape.trans e3, hb.output.trans e4, by rw [← e1]; exact hb.size, fun k hk => by rw [← e1]; exact hb.block k (by rw [e1]; exact hk)⟩
 exact ⟨h.be.trans (hb'.mono h.be.size), h.x0.below hb e1, h.x1.below hb e1, h.x2.below hb e1, h.x3.below hb e1, h.x7.below hb e1, h.x8.below hb e1, h.lt⟩
theorem DvSt.set7 {w W : World} {b7 : Nat} {n1 n2 n7 n8 m : Bool} {s1 s2 s7 s8 t : ByteArray} (h : DvSt w W b7 n1 s1 n2 s2 n7 s7 n8 s8) : DvSt w ((W.setCell ⟨b7, 0, none⟩ (.bool m)).setCell ⟨b7, 1, none⟩ (.string t)) b7 n1 s1 n2 s2 m t n8 s8 := by
 have hl := h.lt
 exact ⟨(h.be.setCell (p := ⟨b7, 0, none⟩) (by show w.heap.size ≤ b7; omega) _).setCell (p := ⟨b7, 1, none⟩) (by show w.heap.size ≤ b7; omega) _, h.x0.other (by omega), h.x1.other (by omega), h.x2.other (by omega), h.x3.other (by omega), h.x7.set, h.x8.other (by omega), h.lt⟩
theorem DvSt.set8 {w W : World} {b7 : Nat} {n1 n2 n7 n8 m : Bool} {s1 s2 s7 s8 t : ByteArray} (h : DvSt w W b7 n1 s1 n2 s2 n7 s7 n8 s8) : DvSt w ((W.setCell ⟨b7 + 1, 0, none⟩ (.bool m)).setCell ⟨b7 + 1, 1, none⟩ (.string t)) b7 n1 s1 n2 s2 n7 s7 m t := by
 have hl := h.lt
 exact ⟨(h.be.setCell (p := ⟨b7 + 1, 0, none⟩) (by show w.heap.size ≤ b7 + 1; omega) _).setCell (p := ⟨b7 + 1, 1, none⟩) (by show w.heap.size ≤ b7 + 1; omega) _, h.x0.other (by omega), h.x1.other (by omega), h.x2.other (by omega), h.x3.other (by omega), h.x7.other (by omega), h.x8.set, h.lt⟩
theorem DvSt.res {w W : World} {b7 : Nat} {n1 n2 n7 n8 m m' : Bool} {s1 s2 s7 s8 t t' : ByteArray} (h : DvSt w W b7 n1 s1 n2 s2 n7 s7 n8 s8) :
  Below w.heap.size w ((((W.setCell ⟨w.heap.size + 1 + 1, 0, none⟩ (.bool m)).setCell ⟨w.heap.size + 1 + 1, 1, none⟩ (.string t)).setCell ⟨w.heap.size + 1 + 1 + 1, 0, none⟩ (.bool m')).setCell ⟨w.heap.size + 1 + 1 + 1, 1, none⟩ (.string t')) :=
 (((h.be.setCell (p := ⟨w.heap.size + 1 + 1, 0, none⟩) (by show w.heap.size ≤ w.heap.size + 1 + 1; omega) _).setCell (p := ⟨w.heap.size + 1 + 1, 1, none⟩) (by show w.heap.size ≤ w.heap.size + 1 + 1; omega) _).setCell (p := ⟨w.heap.size + 1 + 1 + 1, 0, none⟩) (by show w.heap.size ≤ w.heap.size + 1 + 1 + 1; omega) _).setCell (p := ⟨w.heap.size + 1 + 1 + 1, 1, none⟩) (by show w.heap.size ≤ w.heap.size + 1 + 1 + 1; omega) _
theorem DvSt.res' {w W : World} {b7 : Nat} {n1 n2 n7 n8 m m' : Bool} {s1 s2 s7 s8 t t' : ByteArray} (h : DvSt w W b7 n1 s1 n2 s2 n7 s7 n8 s8) :
  Below w.heap.size w ((((W.setCell ⟨w.heap.size + 1 + 1 + 1, 0, none⟩ (.bool m)).setCell ⟨w.heap.size + 1 + 1 + 1, 1, none⟩ (.string t)).setCell ⟨w.heap.size + 1 + 1, 0, none⟩ (.bool m')).setCell ⟨w.heap.size + 1 + 1, 1, none⟩ (.string t')) :=
 (((h.be.setCell (p := ⟨w.heap.size + 1 + 1 + 1, 0, none⟩) (by show w.heap.size ≤ w.heap.size + 1 + 1 + 1; omega) _).setCell (p := ⟨w.heap.size + 1 + 1 + 1, 1, none⟩) (by show w.heap.size ≤ w.heap.size + 1 + 1 + 1; omega) _).setCell (p := ⟨w.heap.size + 1 + 1, 0, none⟩) (by show w.heap.size ≤ w.heap.size + 1 + 1; omega) _).setCell (p := ⟨w.heap.size + 1 + 1, 1, none⟩) (by show w.heap.size ≤ w.heap.size + 1 + 1; omega) _
theorem tdiv_nat (x y : Nat) : Int.tdiv (x : Int) (y : Int) = ((x / y : Nat) : Int) := rfl
theorem tmod_nat (x y : Nat) : Int.tmod (x : Int) (y : Int) = ((x % y : Nat) : Int) := rfl
def RetDv (w : World) (q r : Int) (e : Ending) (w' : World) : Prop :=
 e = .returned (.tuple #[.agg #[.bool (sgn q), .string (mg q.natAbs)], .agg #[.bool (sgn r), .string (mg r.natAbs)], .int .i64 0]) ∧ Below w.heap.size w w'
theorem sgn_nat (x : Nat) : sgn (x : Int) = false := by unfold sgn; exact decide_eq_false (by omega)
theorem nat_abs (x : Nat) : ((x : Int)).natAbs = x := Int.natAbs_natCast x
theorem dvN7 (Q : Nat) (X : World) (h : (mg Q).size ≤ 90000) : Calls Tryz.prog 131 #[.agg #[.bool false, .string (mg Q)]] X (fun e w' => e = .returned (.agg #[.bool (sgn (-(Q : Int))), .string (mg (-(Q : Int)).natAbs)]) ∧ Below X.heap.size X w') := by
 have := rneg_any false (mg Q) X (Nat.le_trans h (by decide))
 rwa [show iv false (mg Q) = (Q : Int) by unfold iv; simp [bv_mg]] at this
end Go.Proofs.Gv
