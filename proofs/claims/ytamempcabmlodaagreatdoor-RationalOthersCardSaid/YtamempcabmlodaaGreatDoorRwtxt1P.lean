import Derived.OpenShut
import Derived.Lib.Bytealg
import Derived.Deep.QuietTactic
import Derived.Test.YtamempcabmlodaaGreatDoorRwlow2P
set_option maxHeartbeats 4000000
set_option maxRecDepth 100000
set_option linter.unusedSimpArgs false
set_option linter.unusedVariables false
namespace Go.Proofs.Gv
open Go Go.RowKit
end Go.Proofs.Gv
namespace Go.Proofs.Gv
open Go Go.RowKit
section
variable {na : Bool} {sa : ByteArray} {a : Int}
theorem prT_txt (ha : Rp na sa a) : prT na (bv sa.data.toList) = txt a := by
 have h := ha.val
 unfold prT txt
 have hz : bv sa.data.toList = 0 ↔ a = 0 := by
  rw [← h, ← iv_abs na sa]; omega
 by_cases h0 : a = 0
 ·rw [if_pos (hz.2 h0), if_pos h0]
 ·rw [if_neg (mt hz.1 h0), if_neg h0]
  have h1 : a.natAbs = bv sa.data.toList := by rw [← h, iv_abs]
  rw [h1]
  congr 1
  have hn : bv sa.data.toList ≠ 0 := mt hz.1 h0
  unfold iv at h
  cases na with
  | true => rw [if_pos rfl, if_pos (by simp at h; omega)]
  | false => rw [if_neg (by simp), if_neg (by simp at h; omega)]
theorem cPrint (ha : Rp na sa a) (W : World) :
  Calls Tryz.prog 64 #[.agg #[.bool na, .string sa]] W fun e w' => e = .returned (.string ⟨(txt a).toArray⟩) ∧ Below W.heap.size W w' := by
 have := Print_any na sa W ha.sz
 rwa [prT_txt ha] at this
end
theorem cParse {s : ByteArray} (hs : s.size ≤ 65536) (hg : goodT s.data.toList = true) (W : World) :
  Calls Tryz.prog 62 #[.string s] W fun e w' => e = .returned (.tuple #[.agg #[.bool (sgn (pz s.data.toList)), .string (mg (pz s.data.toList).natAbs)], .int .i64 0]) ∧ Below W.heap.size W w' := Parse_good s W hs hg
theorem cParseB {s : ByteArray} (hs : s.size ≤ 65536) (hg : goodT s.data.toList = false) (W : World) :
  Calls Tryz.prog 62 #[.string s] W fun e w' => e = .returned (.tuple #[.agg #[.bool false, .string ⟨#[]⟩], .int .i64 3]) ∧ Below W.heap.size W w' := Parse_bad s W hs hg
theorem txt_len (z : Int) (N : Nat) (h : z.natAbs < 2 ^ N) : (txt z).length ≤ N + 2 := by
 unfold txt
 split
 ·simp
 ·have := dec_len N _ h
  split <;> simp <;> omega
end Go.Proofs.Gv
namespace Go.Proofs.Gv
open Go Go.RowKit
theorem idx47 : ∀ l : List UInt8, (l.dropWhile (· != 47) = [] → Lib.indexByte l 47 = -1) ∧ (l.dropWhile (· != 47) ≠ [] → Lib.indexByte l 47 = ((l.takeWhile (· != 47)).length : Nat) ∧ (l.takeWhile (· != 47)).length < l.length)
 | [] => ⟨fun _ => rfl, fun h => absurd rfl h⟩
 | b :: l => by
   by_cases hb : b = 47
   ·subst hb
    refine ⟨fun h => ?_, fun _ => ?_⟩
    ·rw [List.dropWhile_cons_of_neg (by decide)] at h; cases h
    ·rw [List.takeWhile_cons_of_neg (by decide)]; exact ⟨rfl, by simp⟩
   ·have h1 : (b != 47) = true := bne_iff_ne.2 hb
    have h2 : (b == 47) = false := beq_eq_false_iff_ne.2 hb
    rw [List.dropWhile_cons_of_pos (p := fun x : UInt8 => x != 47) h1, List.takeWhile_cons_of_pos (p := fun x : UInt8 => x != 47) h1]
    obtain ⟨i1, i2⟩ := idx47 l
    unfold Lib.indexByte
    rw [h2]
    refine ⟨fun h => ?_, fun h => ?_⟩
    ·rw [i1 h]; rfl
    ·obtain ⟨e, hl⟩ := i2 h
     rw [e]
     have : ((((l.takeWhile (· != 47)).length : Nat) : Int) == -1) = false := by rw [beq_eq_false_iff_ne]; omega
     simp only [Bool.false_eq_true, if_false, this, List.length_cons]
     exact ⟨by omega, by omega⟩
theorem take47 (l : List UInt8) : l.take (l.takeWhile (· != 47)).length = l.takeWhile (· != 47) := by
 have h := List.takeWhile_append_dropWhile (p := fun x : UInt8 => x != 47) (l := l)
 generalize l.takeWhile (· != 47) = t at *
 generalize l.dropWhile (· != 47) = d at *
 subst h; simp
theorem drop47 (l : List UInt8) : l.drop ((l.takeWhile (· != 47)).length + 1) = (l.dropWhile (· != 47)).tail := by
 have h := List.takeWhile_append_dropWhile (p := fun x : UInt8 => x != 47) (l := l)
 generalize l.takeWhile (· != 47) = t at *
 generalize l.dropWhile (· != 47) = d at *
 subst h
 rw [← List.drop_drop, List.drop_left, List.drop_one]
def cutA (s : ByteArray) : ByteArray := ⟨(s.data.toList.takeWhile (· != 47)).toArray⟩
def cutB (s : ByteArray) : ByteArray := ⟨(s.data.toList.dropWhile (· != 47)).tail.toArray⟩
def cutF (s : ByteArray) : Bool := !(s.data.toList.dropWhile (· != 47)).isEmpty
theorem cutA_size (s : ByteArray) : (cutA s).size ≤ s.size := by
 have h1 : (cutA s).size = (s.data.toList.takeWhile (· != 47)).length := by simp [cutA, ByteArray.size]
 have h2 := (List.takeWhile_sublist (fun x : UInt8 => x != 47) (l := s.data.toList)).length_le
 have h3 : s.data.toList.length = s.size := by simp
 omega
theorem cutB_size (s : ByteArray) : (cutB s).size ≤ s.size := by
 have h1 : (cutB s).size = (s.data.toList.dropWhile (· != 47)).length - 1 := by simp [cutB, ByteArray.size]
 have h2 := (List.dropWhile_sublist (fun x : UInt8 => x != 47) (l := s.data.toList)).length_le
 have h3 : s.data.toList.length = s.size := by simp
 omega
theorem index1_any (s : ByteArray) (w : World) : Calls Tryz.prog 111 #[.string s, .string ⟨#[47]⟩] w fun e w' => e = .returned (.int .i64 (Lib.indexByte s.data.toList 47)) ∧ w' = w := by
 have HI : ∀ W, Calls Tryz.prog 123 #[.string s, .int .u8 47] W fun e w' => e = .returned (.int .i64 (Lib.indexByte s.data.toList 47)) ∧ w' = W := fun W => Tryz.stringslite_IndexByte s 47 W
 obtain ⟨i, hi⟩ : ∃ i, Lib.indexByte s.data.toList 47 = i := ⟨_, rfl⟩
 cases h : ([47] == s.toList)
 ·rw [hi] at HI ⊢
  clear hi
  go_enter Tryz.func111, Tryz.ntmps111
  go_wp2_with (go_at_call 123; refine (HI _).mono ?_; rintro e w1 ⟨rfl, rfl⟩)
  go_ret
  exact ⟨rfl, rfl⟩
 ·have h2 : [47] = s.toList := by simpa using h
  rw [ByteArray.toList_eq] at h2
  rw [← h2] at hi
  obtain rfl : i = 0 := hi.symm
  rw [← h2, show Lib.indexByte [47] 47 = 0 from rfl]
  clear hi h2
  go_enter Tryz.func111, Tryz.ntmps111
  go_wp2
  go_ret
  exact ⟨rfl, rfl⟩
theorem cutS_any (s : ByteArray) (w : World) (hs : s.size ≤ 1000000) : Calls Tryz.prog 91 #[.string s, .string ⟨#[47]⟩] w fun e w' => e = .returned (.tuple #[.string (cutA s), .string (cutB s), .bool (cutF s)]) ∧ Below w.heap.size w w' := by
 obtain ⟨i1, i2⟩ := idx47 s.data.toList
 have hI := Lib.hid (index1_any s)
 by_cases h : s.data.toList.dropWhile (· != 47) = []
 ·rw [i1 h] at hI
  have hA : cutA s = s := by
   unfold cutA
   have := List.takeWhile_append_dropWhile (p := fun x : UInt8 => x != 47) (l := s.data.toList)
   rw [h, List.append_nil] at this
   rw [this]
  have hB : cutB s = ⟨#[]⟩ := by unfold cutB; rw [h]; rfl
  have hF : cutF s = false := by unfold cutF; rw [h]; rfl
  rw [hA, hB, hF]
  clear i1 i2 h hA hB hF
  go_enter Tryz.func91, Tryz.ntmps91
  go_wp2_with (go_at_call 111; refine (hI.out _).mono ?_; rintro e w1 ⟨rfl, rfl⟩)
  refine bodyPost_ret (v := .tuple #[.string s, .string ⟨#[]⟩, .bool false]) (by simp [results, Tryz.results91, go_sem]) rfl ?_
  exact ⟨rfl, Below.refl _ _⟩
 ·obtain ⟨e, hl⟩ := i2 h
  rw [e] at hI
  have hF : cutF s = true := by unfold cutF; cases hd : s.data.toList.dropWhile (· != 47) with | nil => exact absurd hd h | cons => rfl
  have hln : s.data.toList.length = s.size := by simp
  have hA : s.extract 0 (s.data.toList.takeWhile (· != 47)).length = cutA s := by
   have := ByteArray.extract_mk s.data.toList 0 (s.data.toList.takeWhile (· != 47)).length
   rw [List.drop_zero, Nat.sub_zero, take47] at this
   simpa [cutA] using this
  have hB : s.extract ((s.data.toList.takeWhile (· != 47)).length + 1) s.size = cutB s := by
   have := ByteArray.extract_mk s.data.toList ((s.data.toList.takeWhile (· != 47)).length + 1) s.size
   rw [drop47, List.take_of_length_le (by rw [← drop47, List.length_drop]; omega)] at this
   simpa [cutB] using this
  rw [← hA, ← hB, hF]
  obtain ⟨k, hk⟩ : ∃ k, (s.data.toList.takeWhile (· != 47)).length = k := ⟨_, rfl⟩
  rw [hk] at hI hl ⊢
  have hk1 : (k : Int) ≤ s.size := by omega
  have hk2 : (k : Int) + 1 ≤ s.size := by omega
  have hk0 : (0 : Int) ≤ k := by omega
  clear i1 i2 h e hF hA hB hk hl
  go_enter Tryz.func91, Tryz.ntmps91
  go_wp2_with (go_at_call 111; refine (hI.out _).mono ?_; rintro e w1 ⟨rfl, rfl⟩)
  go_quiet (fail)
  go_wp2
  refine bodyPost_ret (v := .tuple #[.string (s.extract 0 k), .string (s.extract (k + 1) s.size), .bool true]) (by simp [results, Tryz.results91, go_sem]) rfl ?_
  exact ⟨rfl, rfl, rfl, rfl, Nat.le_refl _, fun _ _ => rfl⟩
theorem cut1_any (s : ByteArray) (w : World) (hs : s.size ≤ 1000000) : Calls Tryz.prog 61 #[.string s, .string ⟨#[47]⟩] w fun e w' => e = .returned (.tuple #[.string (cutA s), .string (cutB s), .bool (cutF s)]) ∧ Below w.heap.size w w' := by
 have hI := Lib.hid (fun w => cutS_any s w hs)
 go_enter Tryz.func61, Tryz.ntmps61
 go_wp2_with (go_at_call 91; refine (hI.out _).mono ?_; rintro e w1 ⟨rfl, hb⟩)
 refine bodyPost_ret (v := .tuple #[.string (cutA s), .string (cutB s), .bool (cutF s)]) (by simp [results, Tryz.results61, go_sem]) rfl ?_
 exact ⟨rfl, hb⟩
end Go.Proofs.Gv
namespace Go.Proofs.Gv
open Go Go.RowKit
theorem ratPow_w {na ma nc mc nx ny nr mr : Bool} {sa ta sc tc sx sy sr tr : ByteArray} {n0 : Int} (w : World)
  (H1 : GivesV 45 #[.agg #[.bool na, .string sa, .bool ma, .string ta]] (.agg #[.bool nc, .string sc, .bool mc, .string tc]))
  (H2 : GivesV 56 #[.agg #[.bool nc, .string sc], .int .i64 n0] (.tuple #[.agg #[.bool nx, .string sx], .int .i64 0]))
  (H3 : GivesV 56 #[.agg #[.bool mc, .string tc], .int .i64 n0] (.tuple #[.agg #[.bool ny, .string sy], .int .i64 0]))
  (H4 : GivesV 41 #[.agg #[.bool nx, .string sx], .agg #[.bool ny, .string sy]] (.agg #[.bool nr, .string sr, .bool mr, .string tr]))
  : Calls Tryz.prog 29 #[.agg #[.bool na, .string sa, .bool ma, .string ta], .int .i64 n0] w fun e w' => e = .returned (.tuple #[.agg #[.bool nr, .string sr, .bool mr, .string tr], .int .i64 0]) ∧ Below w.heap.size w w' := by
 replace H1 := Lib.hid H1
 replace H2 := Lib.hid H2
 replace H3 := Lib.hid H3
 replace H4 := Lib.hid H4
 go_enter Tryz.func29, Tryz.ntmps29
 have HL0 := Lib.hid (Below.refl w.heap.size w)
 have HB0 := Lib.hid (show Bs [] w from trivial)
 have HO0 := Lib.hid (show w.heap.size ≤ w.heap.size from by have := HL0.out.size; first | omega | (simp at this; omega))
 obtain ⟨HL1, HB1⟩ := growLB HL0 HB0 (w.heap.size) #[.bool na, .string sa, .bool ma, .string ta] 25
 clear HL0 HB0
 have HO1 := Lib.hid (show w.heap.size < w.heap.size + 1 from by have := (HB1.out.1).lt; first | omega | (simp at this; omega))
 obtain ⟨HL2, HB2⟩ := growLB HL1 HB1 (w.heap.size + 1) #[.bool false, .string ⟨#[]⟩, .bool false, .string ⟨#[]⟩] 25
 clear HL1 HB1
 obtain ⟨fx0_0_2, fx0_1_2, fx0_2_2, fx0_3_2⟩ := (HB2.out.2.1).at4
 go_wp2_with fail
 refine (H1.out _).mono ?_
 rintro e w1 ⟨rfl, hb⟩
 obtain ⟨HL3, HB3⟩ := cameLB HL2 HB2 hb
 clear hb
 clear HL2 HB2 fx0_0_2 fx0_1_2 fx0_2_2 fx0_3_2
 obtain ⟨fx0_0_3, fx0_1_3, fx0_2_3, fx0_3_3⟩ := (HB3.out.2.1).at4
 obtain ⟨fz0_0_3, fz0_1_3, fz0_2_3, fz0_3_3⟩ := (HB3.out.2.1).z4
 obtain ⟨HL4, HB4⟩ := keptLB (c := w.heap.size) [.bool nc, .string sc, .bool mc, .string tc] 0 1 HL3 HB3 (by have := HO0.out; have := HO1.out; omega) (by simp only [Bs.ap, Bs.ap0, List.length_cons, List.length_nil, and_true, true_and]; have := HO0.out; have := HO1.out; omega)
 simp only [setCs, setL, Bs.put, List.set_cons_succ, List.set_cons_zero, Nat.zero_add, Nat.reduceAdd] at HL4 HB4
 replace HL4 := Lib.hid HL4
 replace HB4 := Lib.hid HB4
 clear HL3 HB3
 obtain ⟨fx0_0_4, fx0_1_4⟩ := (HB4.out.2.1).at2
 go_wp2_with fail
 refine (H2.out _).mono ?_
 rintro e w2 ⟨rfl, hb⟩
 obtain ⟨HL5, HB5⟩ := cameLB HL4 HB4 hb
 clear hb
 clear HL4 HB4 fx0_0_3 fz0_0_3 fx0_1_3 fz0_1_3 fx0_2_3 fz0_2_3 fx0_3_3 fz0_3_3 fx0_0_4 fx0_1_4
 have HO2 := Lib.hid (show w.heap.size + 1 < w2.heap.size from by have := (HB5.out.1).lt; first | omega | (simp at this; omega))
 obtain ⟨HL6, HB6⟩ := growLB HL5 HB5 (w2.heap.size) #[.bool nx, .string sx] 23
 clear HL5 HB5
 have fx0_2_6 := (HB6.out.2.2.1).at 2 (.bool mc) rfl
 have fx0_3_6 := (HB6.out.2.2.1).at 3 (.string tc) rfl
 go_wp2_with fail
 refine (H3.out _).mono ?_
 rintro e w3 ⟨rfl, hb⟩
 obtain ⟨HL7, HB7⟩ := cameLB HL6 HB6 hb
 clear hb
 clear HL6 HB6 fx0_2_6 fx0_3_6
 have HO3 := Lib.hid (show w2.heap.size < w3.heap.size from by have := (HB7.out.1).lt; first | omega | (simp at this; omega))
 obtain ⟨HL8, HB8⟩ := growLB HL7 HB7 (w3.heap.size) #[.bool ny, .string sy] 23
 clear HL7 HB7
 obtain ⟨fx2_0_8, fx2_1_8⟩ := (HB8.out.2.1).at2
 obtain ⟨fx3_0_8, fx3_1_8⟩ := (HB8.out.1).at2
 go_wp2_with fail
 refine (H4.out _).mono ?_
 rintro e w4 ⟨rfl, hb⟩
 obtain ⟨HL9, HB9⟩ := cameLB HL8 HB8 hb
 clear hb
 clear HL8 HB8 fx2_0_8 fx2_1_8 fx3_0_8 fx3_1_8
 obtain ⟨fx1_0_9, fx1_1_9, fx1_2_9, fx1_3_9⟩ := (HB9.out.2.2.1).at4
 obtain ⟨fz1_0_9, fz1_1_9, fz1_2_9, fz1_3_9⟩ := (HB9.out.2.2.1).z4
 obtain ⟨HL10, HB10⟩ := keptLB (c := w.heap.size + 1) [.bool nr, .string sr, .bool mr, .string tr] 0 2 HL9 HB9 (by have := HO0.out; have := HO1.out; have := HO2.out; have := HO3.out; omega) (by simp only [Bs.ap, Bs.ap0, List.length_cons, List.length_nil, and_true, true_and]; have := HO0.out; have := HO1.out; have := HO2.out; have := HO3.out; omega)
 simp only [setCs, setL, Bs.put, List.set_cons_succ, List.set_cons_zero, Nat.zero_add, Nat.reduceAdd] at HL10 HB10
 replace HL10 := Lib.hid HL10
 replace HB10 := Lib.hid HB10
 clear HL9 HB9
 obtain ⟨fx1_0_10, fx1_1_10, fx1_2_10, fx1_3_10⟩ := (HB10.out.2.2.1).at4
 go_wp2
 refine bodyPost_ret (v := .tuple #[.agg #[.bool nr, .string sr, .bool mr, .string tr], .int .i64 0]) (by simp [results, Tryz.results29, go_sem, fx1_0_10, fx1_1_10, fx1_2_10, fx1_3_10]) rfl ?_
 exact ⟨rfl, HL10.out⟩
end Go.Proofs.Gv
namespace Go.Proofs.Gv
open Go Go.RowKit
theorem ratPow_e1 {na ma nc mc nx : Bool} {sa ta sc tc sx : ByteArray} {n0 : Int} (e0 : Int) (he : (e0 != 0) = true) (w : World)
  (H1 : GivesV 45 #[.agg #[.bool na, .string sa, .bool ma, .string ta]] (.agg #[.bool nc, .string sc, .bool mc, .string tc]))
  (H2 : GivesV 56 #[.agg #[.bool nc, .string sc], .int .i64 n0] (.tuple #[.agg #[.bool nx, .string sx], .int .i64 e0]))
  : Calls Tryz.prog 29 #[.agg #[.bool na, .string sa, .bool ma, .string ta], .int .i64 n0] w fun e w' => e = .returned (.tuple #[.agg #[.bool false, .string ⟨#[]⟩, .bool false, .string ⟨#[]⟩], .int .i64 e0]) ∧ Below w.heap.size w w' := by
 replace H1 := Lib.hid H1
 replace H2 := Lib.hid H2
 go_enter Tryz.func29, Tryz.ntmps29
 have HL0 := Lib.hid (Below.refl w.heap.size w)
 have HB0 := Lib.hid (show Bs [] w from trivial)
 have HO0 := Lib.hid (show w.heap.size ≤ w.heap.size from by have := HL0.out.size; first | omega | (simp at this; omega))
 obtain ⟨HL1, HB1⟩ := growLB HL0 HB0 (w.heap.size) #[.bool na, .string sa, .bool ma, .string ta] 25
 clear HL0 HB0
 have HO1 := Lib.hid (show w.heap.size < w.heap.size + 1 from by have := (HB1.out.1).lt; first | omega | (simp at this; omega))
 obtain ⟨HL2, HB2⟩ := growLB HL1 HB1 (w.heap.size + 1) #[.bool false, .string ⟨#[]⟩, .bool false, .string ⟨#[]⟩] 25
 clear HL1 HB1
 obtain ⟨fx0_0_2, fx0_1_2, fx0_2_2, fx0_3_2⟩ := (HB2.out.2.1).at4
 go_wp2_with fail
 refine (H1.out _).mono ?_
 rintro e w1 ⟨rfl, hb⟩
 obtain ⟨HL3, HB3⟩ := cameLB HL2 HB2 hb
 clear hb
 clear HL2 HB2 fx0_0_2 fx0_1_2 fx0_2_2 fx0_3_2
 obtain ⟨fx0_0_3, fx0_1_3, fx0_2_3, fx0_3_3⟩ := (HB3.out.2.1).at4
 obtain ⟨fz0_0_3, fz0_1_3, fz0_2_3, fz0_3_3⟩ := (HB3.out.2.1).z4
 obtain ⟨HL4, HB4⟩ := keptLB (c := w.heap.size) [.bool nc, .string sc, .bool mc, .string tc] 0 1 HL3 HB3 (by have := HO0.out; have := HO1.out; omega) (by simp only [Bs.ap, Bs.ap0, List.length_cons, List.length_nil, and_true, true_and]; have := HO0.out; have := HO1.out; omega)
 simp only [setCs, setL, Bs.put, List.set_cons_succ, List.set_cons_zero, Nat.zero_add, Nat.reduceAdd] at HL4 HB4
 replace HL4 := Lib.hid HL4
 replace HB4 := Lib.hid HB4
 clear HL3 HB3
 obtain ⟨fx0_0_4, fx0_1_4⟩ := (HB4.out.2.1).at2
 go_wp2_with fail
 refine (H2.out _).mono ?_
 rintro e w2 ⟨rfl, hb⟩
 obtain ⟨HL5, HB5⟩ := cameLB HL4 HB4 hb
 clear hb
 clear HL4 HB4 fx0_0_3 fz0_0_3 fx0_1_3 fz0_1_3 fx0_2_3 fz0_2_3 fx0_3_3 fz0_3_3 fx0_0_4 fx0_1_4
 have HO2 := Lib.hid (show w.heap.size + 1 < w2.heap.size from by have := (HB5.out.1).lt; first | omega | (simp at this; omega))
 obtain ⟨HL6, HB6⟩ := growLB HL5 HB5 (w2.heap.size) #[.bool nx, .string sx] 23
 clear HL5 HB5
 obtain ⟨fx1_0_6, fx1_1_6, fx1_2_6, fx1_3_6⟩ := (HB6.out.2.1).at4
 obtain ⟨fz1_0_6, fz1_1_6, fz1_2_6, fz1_3_6⟩ := (HB6.out.2.1).z4
 obtain ⟨HL7, HB7⟩ := keptLB (c := w.heap.size + 1) [.bool false, .string ⟨#[]⟩, .bool false, .string ⟨#[]⟩] 0 1 HL6 HB6 (by have := HO0.out; have := HO1.out; have := HO2.out; omega) (by simp only [Bs.ap, Bs.ap0, List.length_cons, List.length_nil, and_true, true_and]; have := HO0.out; have := HO1.out; have := HO2.out; omega)
 simp only [setCs, setL, Bs.put, List.set_cons_succ, List.set_cons_zero, Nat.zero_add, Nat.reduceAdd] at HL7 HB7
 replace HL7 := Lib.hid HL7
 replace HB7 := Lib.hid HB7
 clear HL6 HB6
 obtain ⟨fx1_0_7, fx1_1_7, fx1_2_7, fx1_3_7⟩ := (HB7.out.2.1).at4
 go_wp2
 refine bodyPost_ret (v := .tuple #[.agg #[.bool false, .string ⟨#[]⟩, .bool false, .string ⟨#[]⟩], .int .i64 e0]) (by simp [results, Tryz.results29, go_sem, fx1_0_7, fx1_1_7, fx1_2_7, fx1_3_7]) rfl ?_
 exact ⟨rfl, HL7.out⟩
end Go.Proofs.Gv
namespace Go.Proofs.Gv
open Go Go.RowKit
theorem ratPrint_int {na ma nc : Bool} {sa ta sc sx : ByteArray} (mc no : Bool) (tc so : ByteArray) (hq : eqI mc tc no so = true) (w : World)
  (H1 : GivesV 45 #[.agg #[.bool na, .string sa, .bool ma, .string ta]] (.agg #[.bool nc, .string sc, .bool mc, .string tc]))
  (H2 : GivesV 39 #[.int .i64 1] (.agg #[.bool no, .string so]))
  (H3 : GivesV 64 #[.agg #[.bool nc, .string sc]] (.string sx))
  : Calls Tryz.prog 35 #[.agg #[.bool na, .string sa, .bool ma, .string ta]] w fun e w' => e = .returned (.string sx) ∧ Below w.heap.size w w' := by
 replace H1 := Lib.hid H1
 replace H2 := Lib.hid H2
 replace H3 := Lib.hid H3
 go_enter Tryz.func35, Tryz.ntmps35
 have HL0 := Lib.hid (Below.refl w.heap.size w)
 have HB0 := Lib.hid (show Bs [] w from trivial)
 have HO0 := Lib.hid (show w.heap.size ≤ w.heap.size from by have := HL0.out.size; first | omega | (simp at this; omega))
 obtain ⟨HL1, HB1⟩ := growLB HL0 HB0 (w.heap.size) #[.bool na, .string sa, .bool ma, .string ta] 25
 clear HL0 HB0
 obtain ⟨fx0_0_1, fx0_1_1, fx0_2_1, fx0_3_1⟩ := (HB1.out.1).at4
 go_wp2_with fail
 refine (H1.out _).mono ?_
 rintro e w1 ⟨rfl, hb⟩
 obtain ⟨HL2, HB2⟩ := cameLB HL1 HB1 hb
 clear hb
 clear HL1 HB1 fx0_0_1 fx0_1_1 fx0_2_1 fx0_3_1
 obtain ⟨fx0_0_2, fx0_1_2, fx0_2_2, fx0_3_2⟩ := (HB2.out.1).at4
 obtain ⟨fz0_0_2, fz0_1_2, fz0_2_2, fz0_3_2⟩ := (HB2.out.1).z4
 obtain ⟨HL3, HB3⟩ := keptLB (c := w.heap.size) [.bool nc, .string sc, .bool mc, .string tc] 0 0 HL2 HB2 (by have := HO0.out; omega) (by simp only [Bs.ap, Bs.ap0, List.length_cons, List.length_nil, and_true, true_and]; have := HO0.out; omega)
 simp only [setCs, setL, Bs.put, List.set_cons_succ, List.set_cons_zero, Nat.zero_add, Nat.reduceAdd] at HL3 HB3
 replace HL3 := Lib.hid HL3
 replace HB3 := Lib.hid HB3
 clear HL2 HB2
 go_wp2_with fail
 obtain ⟨W2, hW⟩ : ∃ W, ((((w1.setCell ⟨w.heap.size, 0, none⟩ (.bool nc)).setCell ⟨w.heap.size, 1, none⟩ (.string sc)).setCell ⟨w.heap.size, 2, none⟩ (.bool mc)).setCell ⟨w.heap.size, 3, none⟩ (.string tc)) = W := ⟨_, rfl⟩
 rw [hW] at HB3 HL3 ⊢
 clear hW fx0_0_2 fz0_0_2 fx0_1_2 fz0_1_2 fx0_2_2 fz0_2_2 fx0_3_2 fz0_3_2
 haveI := cls_some W2
 have fq0_2 : ∀ u : Cl W2, u.x.cell? ⟨w.heap.size, 2, none⟩ = some (.bool mc) := fun u => ((HB3.out.bel u.h).1).at 2 (.bool mc) rfl
 have fq0_3 : ∀ u : Cl W2, u.x.cell? ⟨w.heap.size, 3, none⟩ = some (.string tc) := fun u => ((HB3.out.bel u.h).1).at 3 (.string tc) rfl
 refine wp_region_cls (by kernel_rfl) ?_
 iterate 2 (go_big_quiet_step (fail))
 go_big_quiet_step ((go_at_call 39; exact quiet_cls H2.out _))
 iterate 1 (go_big_quiet_step (fail))
 refine wpQuiet_nil ?_
 intro w3 hw9
 have hb : Below W2.heap.size W2 w3 := by obtain ⟨u, rfl⟩ := hw9; exact u.h
 clear hw9 this fq0_2 fq0_3
 obtain ⟨HL4, HB4⟩ := cameLB HL3 HB3 hb
 clear hb
 clear HL3 HB3
 obtain ⟨fx0_0_4, fx0_1_4⟩ := (HB4.out.1).at2
 go_wp2_with fail
 refine (H3.out _).mono ?_
 rintro e w4 ⟨rfl, hb⟩
 obtain ⟨HL5, HB5⟩ := cameLB HL4 HB4 hb
 clear hb
 clear HL4 HB4 fx0_0_4 fx0_1_4
 go_wp2
 go_ret
 exact ⟨rfl, HL5.out⟩
end Go.Proofs.Gv
