/- tenengolts: Encode. -/
import Derived.Test.YtjnlfmhckdijlaaTen
set_option linter.unusedSimpArgs false
set_option linter.unusedVariables false
namespace Go.Proofs.Gv
open Go Go.RowKit

theorem extL (s : ByteArray) (k : Nat) : (s.extract k s.size).data.toList = s.data.toList.drop k := by
  rw [ByteArray.data_extract, Array.toList_extract, List.extract_eq_take_drop]
  rw [List.take_of_length_le]
  simp
theorem byte_next {pre : List UInt8} {c : UInt8} {i : Nat} (h : pre.length = i) (j : Nat) : (if j = i then c else if j < i then pre.getD j 0 else 0) = if j < i + 1 then (pre ++ [c]).getD j 0 else 0 := by
  subst h
  rw [List.getD_eq_getElem?_getD, List.getD_eq_getElem?_getD]
  by_cases e : j = pre.length
  · subst e
    rw [if_pos rfl, if_pos (by omega), List.getElem?_append_right (Nat.le_refl _), Nat.sub_self]
    rfl
  · rw [if_neg e]
    by_cases e2 : j < pre.length
    · rw [if_pos e2, if_pos (by omega), List.getElem?_append_left e2]
    · rw [if_neg e2, if_neg (by omega)]
theorem mkBytes (N : Int) (n : Nat) (e : N = n) (h : n ≤ 1000000000) (w : World) :
    (Instr.makeSlice 50 (.int .i64 N) (.int .i64 N)).run Try.prog w = .ok (.slice (some ⟨w.heap.size, 0, none⟩) n n) (w.alloc (.cells (madeCells #[.int .u8 0] n) 5)) := by
  subst e
  exact run_make_row' (P := Try.prog) 50 5 (.int .u8 0) 1 Try.underlying50 Try.info5z rfl .i64 .i64 n (by omega) (by omega) w
theorem zero_row (w : World) (n : Nat) (t : TypeId) : BRow (w.alloc (.cells (madeCells #[.int .u8 0] n) t)) w.heap.size n (fun _ => 0) := by
  have hb := BC.new w w.heap.size (madeCells #[.int .u8 0] n) t rfl
  rw [toList_madeCells_one] at hb
  refine ⟨by simp, fun j hj => ?_, fun j hj => hb.fz j (by rw [List.length_replicate]; exact hj)⟩
  refine hb.cell j _ ?_
  rw [List.getElem?_replicate, if_pos hj]
  rfl
theorem range_ofL {n : Nat} {l : List UInt8} {f : Nat → UInt8} (hl : l.length = n) (h : ∀ j, j < n → f j = l.getD j 0) : (⟨((List.range n).map f).toArray⟩ : ByteArray) = ofL l := by
  unfold ofL
  congr 2
  subst hl
  apply List.ext_getElem?
  intro j
  rw [List.getElem?_map]
  by_cases hj : j < l.length
  · rw [List.getElem?_range hj, List.getElem?_eq_getElem hj]
    simp only [Option.map_some]
    rw [h j hj, List.getD_eq_getElem?_getD, List.getElem?_eq_getElem hj]
    rfl
  · rw [List.getElem?_eq_none (by simp; omega), List.getElem?_eq_none (by omega)]
    rfl
theorem encD_step {i m : Nat} {r : List UInt8} : encD i (m + 1) r = if fr2 (i + 1) then r.headD 48 :: encD (i + 1) m r.tail else 48 :: encD (i + 1) m r := rfl
theorem freeN_step {i m : Nat} : freeN i (m + 1) = (if fr2 (i + 1) then 1 else 0) + freeN (i + 1) m := rfl
set_option maxRecDepth 100000 in
set_option maxHeartbeats 8000000 in
theorem Encode_any (n : Nat) (s : ByteArray) (h1 : 1 ≤ n) (hn : n ≤ 16) (hs : Bin s) (hsz : s.size = freeN 0 n) (w : World) :
    Calls Try.prog 12 #[.int .i64 n, .string s] w fun e w' => e = .returned (.tuple #[.string (sysW n s), .int .i64 0]) ∧ Below w.heap.size w w' := by
  have hf16 : freeN 0 n ≤ 16 := by have := freeN_le n 0; omega
  have HC := Lib.hid (vck_any n 0)
  rw [show vck (n : Int) 0 = 0 from by unfold vck; rw [if_neg (by omega)]] at HC
  have HK := Lib.hid (fun W => WCheck_any 2 s W (by omega))
  rw [(bin_chk hs (by omega)).1] at HK
  have HD := Lib.hid (data_any n (by omega))
  have HFR := Lib.hid (fun p (hp : p ≤ 1000) W => free_any p hp W)
  have hmk := mkBytes (n : Int) n rfl (by omega)
  have hne : ((s.size : Int) != (freeN 0 n : Nat)) = false := by rw [hsz]; simp
  obtain ⟨k, hk⟩ : ∃ k, freeN 0 n = k := ⟨_, rfl⟩
  have HSZ := Lib.hid hsz
  rw [hk] at HD hne
  have h1I : (1 : Int) ≤ n := by omega
  have hnI : (n : Int) ≤ 16 := by omega
  have hsz16 : s.size ≤ 16 := by omega
  clear hs hsz hk hf16
  go_enter Try.func12, Try.ntmps12
  go_wp2_with fail
  refine (HC.out _).mono ?_
  rintro e w1 ⟨rfl, e1⟩
  obtain rfl : w = w1 := e1.symm
  go_wp2_with fail
  refine (HK.out _).mono ?_
  rintro e w1 ⟨rfl, hd⟩
  have HB1 := Lib.hid (dr_below hd)
  clear hd
  go_wp2_with fail
  refine (HD.out _).mono ?_
  rintro e w2 ⟨rfl, e1⟩
  obtain rfl : w1 = w2 := e1.symm
  go_wp2_with fail
  have HR0 := Lib.hid (zero_row w1 n 5)
  have HB2 := Lib.hid (HB1.out.alloc HB1.out.size (.cells (madeCells #[.int .u8 0] n) 5))
  have HBG := Lib.hid HB1.out.size
  obtain ⟨W0, hW0⟩ : ∃ X, w1.alloc (.cells (madeCells #[.int .u8 0] n) 5) = X := ⟨_, rfl⟩
  obtain ⟨B, hB⟩ : ∃ X, w1.heap.size = X := ⟨_, rfl⟩
  rw [hW0] at HR0 HB2 ⊢
  rw [hB] at HR0 HBG ⊢
  clear hW0 hB hmk HB1
  go_loopg [1, 31] (n + 1) (fun gg x1 x31 wr => ∃ (i : Nat) (pre : List UInt8) (r : ByteArray), x31 = .int .i64 (i : Int) ∧ x1 = .string r ∧ i ≤ n ∧ n - i < gg ∧ pre.length = i ∧ encD 0 n s.data.toList = pre ++ encD i (n - i) r.data.toList ∧ r.size = freeN i (n - i) ∧ BRow wr B n (fun j => if j < i then pre.getD j 0 else 0) ∧ Below w.heap.size w wr)
  case atStart => exact ⟨0, [], s, rfl, rfl, Nat.zero_le _, by omega, rfl, rfl, HSZ.out, HR0.out, HB2.out⟩
  case round =>
    obtain ⟨i, pre, r, rfl, rfl, hi, hg, hpl, henc, hrs, hrow, hb⟩ := hrel
    have HG := Lib.hid hg
    have HPL := Lib.hid hpl
    have HEN := Lib.hid henc
    have HRS := Lib.hid hrs
    have HRW := Lib.hid hrow
    have HB := Lib.hid hb
    clear hg hpl henc hrs hrow hb HR0 HB2
    by_cases hlt : i < n
    · have hltI : (i : Int) < n := by omega
      obtain ⟨m, hm⟩ : ∃ m, n - i = m + 1 := ⟨n - i - 1, by omega⟩
      have hm2 : n - (i + 1) = m := by omega
      rw [hm] at HEN HRS
      have HM := Lib.hid hm2
      have c0 := HRW.out.cell i hlt
      have z0 := HRW.out.fz i hlt
      have HFC := Lib.hid (HFR.out i (by omega))
      have HX1 := Lib.hid ((HRW.out.set' i hlt (V := 48) (c := 48) rfl).congr (fun j _ => byte_next HPL.out j))
      have HXB := Lib.hid (HB.out.setCell (p := ⟨B, i, none⟩) HBG.out (.int .i64 48))
      cases hf : fr2 (i + 1) with
      | false =>
        rw [hf] at HFC
        have HE2 := Lib.hid (show encD 0 n s.data.toList = (pre ++ [48]) ++ encD (i + 1) m r.data.toList from by
          rw [HEN.out, encD_step, if_neg (by rw [hf]; decide), List.append_assoc]; rfl)
        have HR2 := Lib.hid (show r.size = freeN (i + 1) m from by rw [HRS.out]; rw [freeN_step, if_neg (by rw [hf]; decide)]; omega)
        clear hf hm hm2
        go_wp2_with fail
        refine (HFC.out _).mono ?_
        rintro e w3 ⟨rfl, e3⟩
        rw [e3]
        clear e3 c0 z0
        go_wp2
        go_roundg (n - i)
        case rel => exact ⟨i + 1, pre ++ [48], r, by go_num, rfl, by omega, by omega, by rw [List.length_append, HPL.out]; rfl, by rw [HM.out]; exact HE2.out, by rw [HM.out]; exact HR2.out, HX1.out, HB.out.setCell (p := ⟨B, i, none⟩) HBG.out _⟩
        case measure => have := HG.out; omega
      | true =>
        rw [hf] at HFC
        have hrp : 1 ≤ r.size := by rw [HRS.out]; rw [freeN_step, if_pos hf]; omega
        have hrp2 : r.size ≤ 16 := by rw [HRS.out]; have := freeN_le (m + 1) i; omega
        have hx : (r[0]'(by omega)) = at' r 0 := at'_eq (by omega)
        have hL : r.data.toList = at' r 0 :: r.data.toList.tail := by
          have := size_list r
          unfold at'
          cases hq : r.data.toList with
          | nil => rw [hq] at this; simp at this; omega
          | cons a l => rfl
        have HE2 := Lib.hid (show encD 0 n s.data.toList = (pre ++ [at' r 0]) ++ encD (i + 1) m (r.extract 1 r.size).data.toList from by
          rw [HEN.out, encD_step, if_pos hf, List.append_assoc, extL, hL]; rfl)
        have HR2 := Lib.hid (show (r.extract 1 r.size).size = freeN (i + 1) m from by
          rw [← size_list, extL, List.length_drop, size_list, HRS.out]; rw [freeN_step, if_pos hf]; omega)
        have HX2 := Lib.hid (fun c : UInt8 => show BRow ((wr.setCell ⟨B, i, none⟩ (.int .u8 48)).setCell ⟨B, i, none⟩ (.int .u8 c.toNat)) B n (fun j => if j < i + 1 then (pre ++ [c]).getD j 0 else 0) from
          ((HRW.out.set' i hlt (V := 48) (c := 48) rfl).set i hlt c).congr (fun j _ => by
            rw [← byte_next HPL.out j]
            by_cases e : j = i
            · rw [if_pos e, if_pos e]
            · rw [if_neg e, if_neg e, if_neg e]))
        obtain ⟨cc, hcc⟩ : ∃ cc, at' r 0 = cc := ⟨_, rfl⟩
        rw [hcc] at hx HE2
        clear hf hm hm2 hL hcc
        go_wp2_with fail
        refine (HFC.out _).mono ?_
        rintro e w3 ⟨rfl, e3⟩
        rw [e3]
        have c1 := HX1.out.cell i hlt
        have z1 := HX1.out.fz i hlt
        have HBX := Lib.hid (HB.out.setCell (p := ⟨B, i, none⟩) HBG.out (.int .u8 48))
        have HX3 := Lib.hid (HX2.out cc)
        clear e3 c0 z0
        obtain ⟨Y, hY⟩ : ∃ Y, wr.setCell ⟨B, i, none⟩ (.int .u8 48) = Y := ⟨_, rfl⟩
        rw [hY] at c1 z1 HBX HX3 ⊢
        clear hY
        have c1d : Y.drew.cell? ⟨B, i, none⟩ = _ := c1
        have z1d : Y.drew.frozen? ⟨B, i, none⟩ = false := z1
        go_wp2_with fail
        go_region
        clear c1d z1d c1 z1
        go_wp2
        go_roundg (n - i)
        case rel => exact ⟨i + 1, pre ++ [cc], r.extract 1 r.size, by go_num, rfl, by omega, by omega, by rw [List.length_append, HPL.out]; rfl, by rw [HM.out]; exact HE2.out, by rw [HM.out]; exact HR2.out, HX3.out.same, (HBX.out.setCell (p := ⟨B, i, none⟩) HBG.out _).drew⟩
        case measure => have := HG.out; omega
    · obtain rfl : i = n := by omega
      have hB : decide ((i : Int) < i) = false := by simp
      obtain ⟨D, hD⟩ : ∃ D, encD 0 i s.data.toList = D := ⟨_, rfl⟩
      have hpre : D = pre := by
        have := HEN.out
        rw [hD, Nat.sub_self] at this
        rw [this]
        exact List.append_nil pre
      subst hpre
      have HDL := Lib.hid HPL.out
      have HRD := Lib.hid (show BRow wr B i (fun j => if j < 0 then (encB 0 0 D).getD j 0 else D.getD j 0) from HRW.out.congr (fun j hj => by rw [if_pos hj, if_neg (Nat.not_lt_zero _)]))
      have hcv := conv_back wr B i i _ HRW.out
      rw [range_ofL HPL.out (fun j hj => by rw [if_pos hj])] at hcv
      have hos : (ofL D).size = i := by rw [ofL_size, HPL.out]
      have HSY := Lib.hid (fun W => syn_any (ofL D) W (by rw [hos]; omega))
      obtain ⟨y, hy⟩ : ∃ y, syn (ofL D) = y := ⟨_, rfl⟩
      have hyb : y ≤ i := by
        rw [← hy]
        unfold syn
        rw [hos]
        exact Nat.lt_succ_iff.1 (Nat.mod_lt _ (Nat.succ_pos _))
      rw [hy] at HSY
      obtain ⟨ms, hms⟩ : ∃ ms, (i + 1 - y) % (i + 1) = ms := ⟨_, rfl⟩
      have hmb : ms ≤ i := by rw [← hms]; exact Nat.lt_succ_iff.1 (Nat.mod_lt _ (Nat.succ_pos _))
      have hrem1 : ((i : Int) + 1 - (y : Int)) % ((i : Int) + 1) = (ms : Int) := by
        rw [← hms, Int.natCast_emod]
        congr 1
        omega
      have hrem2 : ((i : Int) + 1 - (y : Int)).tmod ((i : Int) + 1) = (ms : Int) := by
        rw [Int.tmod_eq_emod_of_nonneg (by omega), hrem1]
      have HRES := Lib.hid (show sysW i s = ofL (encB ms 0 D) from by
        unfold sysW
        rw [hD, hy, hms])
      obtain ⟨q, hq⟩ : ∃ q, ofL D = q := ⟨_, rfl⟩
      rw [hq] at hcv HSY
      have hyI : (y : Int) ≤ i := by omega
      clear hD hy hms hq hos HEN HRS
      go_wp2_with fail
      refine (HSY.out _).mono ?_
      rintro e w3 ⟨rfl, e3⟩
      obtain rfl : wr = w3 := e3.symm
      go_wp2_with fail
      go_loopg [59] (i + 1) (fun gg x wx => ∃ (k : Nat), x = .int .i64 (k : Int) ∧ k ≤ i ∧ i - k < gg ∧ BRow wx B i (fun j => if j < k then (encB ms 0 D).getD j 0 else D.getD j 0) ∧ Below w.heap.size w wx)
      case atStart => exact ⟨0, rfl, Nat.zero_le _, by omega, HRD.out.congr (fun j _ => by rw [if_neg (Nat.not_lt_zero _), if_neg (Nat.not_lt_zero _)]), HB.out⟩
      case round =>
        obtain ⟨k, rfl, hk, hg, hrow, hb⟩ := hrel
        have HG2 := Lib.hid hg
        have HRW2 := Lib.hid hrow
        have HB2 := Lib.hid hb
        clear hg hrow hb HRD HRW hcv hrem1 hrem2
        by_cases hlt : k < i
        · have hltI : (k : Int) < i := by omega
          have HFC := Lib.hid (HFR.out k (by omega))
          have HAT := Lib.hid (encB_at ms D 0 k (by rw [HDL.out]; exact hlt))
          rw [Nat.zero_add] at HAT
          have HNX := Lib.hid (fun (W : World) (h : BRow W B i (fun j => if j = k then (encB ms 0 D).getD k 0 else if j < k then (encB ms 0 D).getD j 0 else D.getD j 0)) => h.congr (h := fun j => if j < k + 1 then (encB ms 0 D).getD j 0 else D.getD j 0) (fun j _ => by
            by_cases e : j = k
            · subst e; rw [if_pos rfl, if_pos (by omega)]
            · rw [if_neg e]
              by_cases e2 : j < k
              · rw [if_pos e2, if_pos (by omega)]
              · rw [if_neg e2, if_neg (by omega)]))
          have HKP := Lib.hid (fun (h : (encB ms 0 D).getD k 0 = D.getD k 0) => HNX.out _ (HRW2.out.congr (fun j _ => by
            by_cases e : j = k
            · subst e; rw [if_pos rfl, if_neg (Nat.lt_irrefl _), h]
            · rw [if_neg e])))
          cases hf : fr2 (k + 1) with
          | true =>
            rw [hf] at HFC HAT
            have HKK := Lib.hid (HKP.out (by rw [HAT.out]; rfl))
            clear hf
            go_wp2_with fail
            refine (HFC.out _).mono ?_
            rintro e w4 ⟨rfl, e4⟩
            obtain rfl : wr = w4 := e4.symm
            go_wp2
            go_roundg (i - k)
            case rel => exact ⟨k + 1, by go_num, by omega, by omega, HKK.out, HB2.out⟩
            case measure => have := HG2.out; omega
          | false =>
            rw [hf] at HFC HAT
            clear hf
            have hand : bits .and .i64 (ms : Int) ((k : Int) + 1) = ((ms &&& (k + 1) : Nat) : Int) := and_nat ms (k + 1) (by omega) (by omega)
            by_cases hz : (ms &&& (k + 1)) = 0
            · have HKK := Lib.hid (HKP.out (by rw [HAT.out, hz]; rfl))
              rw [hz] at hand
              clear hz
              go_wp2_with fail
              refine (HFC.out _).mono ?_
              rintro e w4 ⟨rfl, e4⟩
              obtain rfl : wr = w4 := e4.symm
              go_wp2
              go_roundg (i - k)
              case rel => exact ⟨k + 1, by go_num, by omega, by omega, HKK.out, HB2.out⟩
              case measure => have := HG2.out; omega
            · have HKK := Lib.hid (HNX.out _ ((HRW2.out.set' k hlt (V := 49) (c := 49) rfl).congr (fun j _ => by
                by_cases e : j = k
                · rw [if_pos e, if_pos e, HAT.out]; simp [hz]
                · rw [if_neg e, if_neg e])))
              have c0 := HRW2.out.cell k hlt
              have z0 := HRW2.out.fz k hlt
              obtain ⟨x, hx⟩ : ∃ x, (ms &&& (k + 1)) = x := ⟨_, rfl⟩
              rw [hx] at hand hz
              have hxB : ((x : Int) != 0) = true := by simp; omega
              have hxB2 : ((x : Int) == 0) = false := by simp; omega
              clear hz hx
              go_wp2_with fail
              refine (HFC.out _).mono ?_
              rintro e w4 ⟨rfl, e4⟩
              obtain rfl : wr = w4 := e4.symm
              go_wp2
              go_roundg (i - k)
              case rel => exact ⟨k + 1, by go_num, by omega, by omega, HKK.out, HB2.out.setCell (p := ⟨B, k, none⟩) HBG.out _⟩
              case measure => have := HG2.out; omega
        · obtain rfl : k = i := by omega
          have hBk : decide ((k : Int) < k) = false := by simp
          have hcv := conv_back wr B k k _ HRW2.out
          rw [range_ofL (l := encB ms 0 D) (by rw [encB_len, HDL.out]) (fun j hj => by rw [if_pos hj]), ← HRES.out] at hcv
          go_wp2
          go_ret2
          exact ⟨rfl, HB2.out⟩
end Go.Proofs.Gv
