/- The law IntegerDecimal, walked. -/
import Derived.Test.YtamempcabmlodaaDoorRatCP
import Derived.Test.YtamempcabmlodaaDoorFront
import Derived.Test.YtamempcabmlodaaDoorParse
import Derived.OpenShut
import Derived.Test.YtamempcabmlodaaDoorShelf
import Derived.Test.YtamempcabmlodaaDoorRangeP
import Derived.Lib.Bytealg
import Derived.Deep.QuietTactic
import Derived.Test.YtamempcabmlodaaDoorRatTabP
set_option linter.unusedSimpArgs false
set_option linter.unusedVariables false
namespace Go.Proofs.Gv
open Go Go.RowKit

end Go.Proofs.Gv

namespace Go.Proofs.Gv
open Go Go.RowKit

section
variable {na : Bool} {sa : ByteArray} {a : Int}
theorem prT_txt (ha : Rp na sa a) : prT na (bv sa.data.toList) = txt a := by
  have h := ha.val
  unfold prT txt
  have hz : bv sa.data.toList = 0 ↔ a = 0 := by
    rw [← h, ← iv_abs na sa]; omega
  by_cases h0 : a = 0
  · rw [if_pos (hz.2 h0), if_pos h0]
  · rw [if_neg (mt hz.1 h0), if_neg h0]
    have h1 : a.natAbs = bv sa.data.toList := by rw [← h, iv_abs]
    rw [h1]
    congr 1
    have hn : bv sa.data.toList ≠ 0 := mt hz.1 h0
    unfold iv at h
    cases na with
    | true => rw [if_pos rfl, if_pos (by simp at h; omega)]
    | false => rw [if_neg (by simp), if_neg (by simp at h; omega)]
theorem cPrint (ha : Rp na sa a) (W : World) :
    Calls Tryd.prog 37 #[.agg #[.bool na, .string sa]] W fun e w' => e = .returned (.string ⟨(txt a).toArray⟩) ∧ Below W.heap.size W w' := by
  have := Print_any na sa W ha.sz
  rwa [prT_txt ha] at this
end
theorem cParse {s : ByteArray} (hs : s.size ≤ 65536) (hg : goodT s.data.toList = true) (W : World) :
    Calls Tryd.prog 35 #[.string s] W fun e w' => e = .returned (.tuple #[.agg #[.bool (sgn (pz s.data.toList)), .string (mg (pz s.data.toList).natAbs)], .int .i64 0]) ∧ Below W.heap.size W w' := Parse_good s W hs hg
theorem cParseB {s : ByteArray} (hs : s.size ≤ 65536) (hg : goodT s.data.toList = false) (W : World) :
    Calls Tryd.prog 35 #[.string s] W fun e w' => e = .returned (.tuple #[.agg #[.bool false, .string ⟨#[]⟩], .int .i64 3]) ∧ Below W.heap.size W w' := Parse_bad s W hs hg

theorem txt_len (z : Int) (N : Nat) (h : z.natAbs < 2 ^ N) : (txt z).length ≤ N + 2 := by
  unfold txt
  split
  · simp
  · have := dec_len N _ h
    split <;> simp <;> omega
end Go.Proofs.Gv

namespace Go.Proofs.Gv
open Go Go.RowKit

theorem idx47 : ∀ l : List UInt8, (l.dropWhile (· != 47) = [] → Lib.indexByte l 47 = -1) ∧ (l.dropWhile (· != 47) ≠ [] → Lib.indexByte l 47 = ((l.takeWhile (· != 47)).length : Nat) ∧ (l.takeWhile (· != 47)).length < l.length)
  | [] => ⟨fun _ => rfl, fun h => absurd rfl h⟩
  | b :: l => by
    by_cases hb : b = 47
    · subst hb
      refine ⟨fun h => ?_, fun _ => ?_⟩
      · rw [List.dropWhile_cons_of_neg (by decide)] at h; cases h
      · rw [List.takeWhile_cons_of_neg (by decide)]; exact ⟨rfl, by simp⟩
    · have h1 : (b != 47) = true := bne_iff_ne.2 hb
      have h2 : (b == 47) = false := beq_eq_false_iff_ne.2 hb
      rw [List.dropWhile_cons_of_pos (p := fun x : UInt8 => x != 47) h1, List.takeWhile_cons_of_pos (p := fun x : UInt8 => x != 47) h1]
      obtain ⟨i1, i2⟩ := idx47 l
      unfold Lib.indexByte
      rw [h2]
      refine ⟨fun h => ?_, fun h => ?_⟩
      · rw [i1 h]; rfl
      · obtain ⟨e, hl⟩ := i2 h
        rw [e]
        have : ((((l.takeWhile (· != 47)).length : Nat) : Int) == -1) = false := by rw [beq_eq_false_iff_ne]; omega
        simp only [Bool.false_eq_true, if_false, this, List.length_cons]
        exact ⟨by omega, by omega⟩
theorem take47 (l : List UInt8) : l.take (l.takeWhile (· != 47)).length = l.takeWhile (· != 47) := by
  have h := List.takeWhile_append_dropWhile (p := fun x : UInt8 => x != 47) (l := l)
  generalize l.takeWhile (· != 47) = t at *
  generalize l.dropWhile (· != 47) = d at *
  subst h; simp
theorem drop47 (l : List UInt8) : l.drop ((l.takeWhile (· != 47)).length + 1) = (l.dropWhile (· != 47)).tail := by
  have h := List.takeWhile_append_dropWhile (p := fun x : UInt8 => x != 47) (l := l)
  generalize l.takeWhile (· != 47) = t at *
  generalize l.dropWhile (· != 47) = d at *
  subst h
  rw [← List.drop_drop, List.drop_left, List.drop_one]

/-- what stands before the stroke -/
def cutA (s : ByteArray) : ByteArray := ⟨(s.data.toList.takeWhile (· != 47)).toArray⟩
/-- what stands behind it -/
def cutB (s : ByteArray) : ByteArray := ⟨(s.data.toList.dropWhile (· != 47)).tail.toArray⟩
def cutF (s : ByteArray) : Bool := !(s.data.toList.dropWhile (· != 47)).isEmpty
theorem cutA_size (s : ByteArray) : (cutA s).size ≤ s.size := by
  have h1 : (cutA s).size = (s.data.toList.takeWhile (· != 47)).length := by simp [cutA, ByteArray.size]
  have h2 := (List.takeWhile_sublist (fun x : UInt8 => x != 47) (l := s.data.toList)).length_le
  have h3 : s.data.toList.length = s.size := by simp
  omega
theorem cutB_size (s : ByteArray) : (cutB s).size ≤ s.size := by
  have h1 : (cutB s).size = (s.data.toList.dropWhile (· != 47)).length - 1 := by simp [cutB, ByteArray.size]
  have h2 := (List.dropWhile_sublist (fun x : UInt8 => x != 47) (l := s.data.toList)).length_le
  have h3 : s.data.toList.length = s.size := by simp
  omega

theorem index1_any (s : ByteArray) (w : World) : Calls Tryd.prog 67 #[.string s, .string ⟨#[47]⟩] w fun e w' => e = .returned (.int .i64 (Lib.indexByte s.data.toList 47)) ∧ w' = w := by
  have HI : ∀ W, Calls Tryd.prog 86 #[.string s, .int .u8 47] W fun e w' => e = .returned (.int .i64 (Lib.indexByte s.data.toList 47)) ∧ w' = W := fun W => Tryd.stringslite_IndexByte s 47 W
  obtain ⟨i, hi⟩ : ∃ i, Lib.indexByte s.data.toList 47 = i := ⟨_, rfl⟩
  cases h : ([47] == s.toList)
  · rw [hi] at HI ⊢
    clear hi
    go_enter Tryd.func67, Tryd.ntmps67
    go_wp2_with (go_at_call 86; refine (HI _).mono ?_; rintro e w1 ⟨rfl, rfl⟩)
    go_ret
    exact ⟨rfl, rfl⟩
  · have h2 : [47] = s.toList := by simpa using h
    rw [ByteArray.toList_eq] at h2
    rw [← h2] at hi
    obtain rfl : i = 0 := hi.symm
    rw [← h2, show Lib.indexByte [47] 47 = 0 from rfl]
    clear hi h2
    go_enter Tryd.func67, Tryd.ntmps67
    go_wp2
    go_ret
    exact ⟨rfl, rfl⟩
set_option maxRecDepth 100000 in
theorem cutS_any (s : ByteArray) (w : World) (hs : s.size ≤ 1000000) : Calls Tryd.prog 50 #[.string s, .string ⟨#[47]⟩] w fun e w' => e = .returned (.tuple #[.string (cutA s), .string (cutB s), .bool (cutF s)]) ∧ Below w.heap.size w w' := by
  obtain ⟨i1, i2⟩ := idx47 s.data.toList
  have hI := Lib.hid (index1_any s)
  by_cases h : s.data.toList.dropWhile (· != 47) = []
  · rw [i1 h] at hI
    have hA : cutA s = s := by
      unfold cutA
      have := List.takeWhile_append_dropWhile (p := fun x : UInt8 => x != 47) (l := s.data.toList)
      rw [h, List.append_nil] at this
      rw [this]
    have hB : cutB s = ⟨#[]⟩ := by unfold cutB; rw [h]; rfl
    have hF : cutF s = false := by unfold cutF; rw [h]; rfl
    rw [hA, hB, hF]
    clear i1 i2 h hA hB hF
    go_enter Tryd.func50, Tryd.ntmps50
    go_wp2_with (go_at_call 67; refine (hI.out _).mono ?_; rintro e w1 ⟨rfl, rfl⟩)
    refine bodyPost_ret (v := .tuple #[.string s, .string ⟨#[]⟩, .bool false]) (by simp [results, Tryd.results50, go_sem]) rfl ?_
    exact ⟨rfl, Below.refl _ _⟩
  · obtain ⟨e, hl⟩ := i2 h
    rw [e] at hI
    have hF : cutF s = true := by unfold cutF; cases hd : s.data.toList.dropWhile (· != 47) with | nil => exact absurd hd h | cons => rfl
    have hln : s.data.toList.length = s.size := by simp
    have hA : s.extract 0 (s.data.toList.takeWhile (· != 47)).length = cutA s := by
      have := ByteArray.extract_mk s.data.toList 0 (s.data.toList.takeWhile (· != 47)).length
      rw [List.drop_zero, Nat.sub_zero, take47] at this
      simpa [cutA] using this
    have hB : s.extract ((s.data.toList.takeWhile (· != 47)).length + 1) s.size = cutB s := by
      have := ByteArray.extract_mk s.data.toList ((s.data.toList.takeWhile (· != 47)).length + 1) s.size
      rw [drop47, List.take_of_length_le (by rw [← drop47, List.length_drop]; omega)] at this
      simpa [cutB] using this
    rw [← hA, ← hB, hF]
    obtain ⟨k, hk⟩ : ∃ k, (s.data.toList.takeWhile (· != 47)).length = k := ⟨_, rfl⟩
    rw [hk] at hI hl ⊢
    have hk1 : (k : Int) ≤ s.size := by omega
    have hk2 : (k : Int) + 1 ≤ s.size := by omega
    have hk0 : (0 : Int) ≤ k := by omega
    clear i1 i2 h e hF hA hB hk hl
    go_enter Tryd.func50, Tryd.ntmps50
    go_wp2_with (go_at_call 67; refine (hI.out _).mono ?_; rintro e w1 ⟨rfl, rfl⟩)
    go_quiet (fail)
    go_wp2
    refine bodyPost_ret (v := .tuple #[.string (s.extract 0 k), .string (s.extract (k + 1) s.size), .bool true]) (by simp [results, Tryd.results50, go_sem]) rfl ?_
    exact ⟨rfl, rfl, rfl, rfl, Nat.le_refl _, fun _ _ => rfl⟩
theorem cut1_any (s : ByteArray) (w : World) (hs : s.size ≤ 1000000) : Calls Tryd.prog 34 #[.string s, .string ⟨#[47]⟩] w fun e w' => e = .returned (.tuple #[.string (cutA s), .string (cutB s), .bool (cutF s)]) ∧ Below w.heap.size w w' := by
  have hI := Lib.hid (fun w => cutS_any s w hs)
  go_enter Tryd.func34, Tryd.ntmps34
  go_wp2_with (go_at_call 50; refine (hI.out _).mono ?_; rintro e w1 ⟨rfl, hb⟩)
  refine bodyPost_ret (v := .tuple #[.string (cutA s), .string (cutB s), .bool (cutF s)]) (by simp [results, Tryd.results34, go_sem]) rfl ?_
  exact ⟨rfl, hb⟩
end Go.Proofs.Gv

namespace Go.Proofs.Gv
open Go Go.RowKit

set_option maxRecDepth 100000 in
set_option maxHeartbeats 4000000 in
theorem ratPrint_int {na ma nc : Bool} {sa ta sc sx : ByteArray} (mc no : Bool) (tc so : ByteArray) (hq : eqI mc tc no so = true) (w : World)
    (H1 : ∀ W, Calls Tryd.prog 36 #[.agg #[.bool na, .string sa, .bool ma, .string ta]] W fun e w' => e = .returned (.agg #[.bool nc, .string sc, .bool mc, .string tc]) ∧ Below W.heap.size W w')
    (H2 : ∀ W, Calls Tryd.prog 24 #[.int .i64 1] W fun e w' => e = .returned (.agg #[.bool no, .string so]) ∧ Below W.heap.size W w')
    (H3 : ∀ W, Calls Tryd.prog 37 #[.agg #[.bool nc, .string sc]] W fun e w' => e = .returned (.string sx) ∧ Below W.heap.size W w')
    : Calls Tryd.prog 13 #[.agg #[.bool na, .string sa, .bool ma, .string ta]] w fun e w' => e = .returned (.string sx) ∧ Below w.heap.size w w' := by
  replace H1 := Lib.hid H1
  replace H2 := Lib.hid H2
  replace H3 := Lib.hid H3
  go_enter Tryd.func13, Tryd.ntmps13
  have HL0 := Lib.hid (Below.refl w.heap.size w)
  have HB0 := Lib.hid (show Bs [] w from trivial)
  have HO0 := Lib.hid (show w.heap.size ≤ w.heap.size from by have := HL0.out.size; first | omega | (simp at this; omega))
  have HL1 := Lib.hid (HL0.out.alloc HL0.out.size (.cells #[.bool na, .string sa, .bool ma, .string ta] 25))
  have HB1 := Lib.hid (HB0.out.push (w.heap.size) #[.bool na, .string sa, .bool ma, .string ta] 25 (by first | rfl | simp))
  clear HL0 HB0
  have fx0_0_1 := (HB1.out.1).at 0 (.bool na) rfl
  have fx0_1_1 := (HB1.out.1).at 1 (.string sa) rfl
  have fx0_2_1 := (HB1.out.1).at 2 (.bool ma) rfl
  have fx0_3_1 := (HB1.out.1).at 3 (.string ta) rfl
  go_wp2_with fail
  refine (H1.out _).mono ?_
  rintro e w1 ⟨rfl, hb⟩
  have HL2 := Lib.hid (bstep HL1.out hb)
  have HB2 := Lib.hid (HB1.out.bel hb)
  clear hb
  clear HL1 HB1 fx0_0_1 fx0_1_1 fx0_2_1 fx0_3_1
  have fx0_0_2 := (HB2.out.1).at 0 (.bool na) rfl
  have fz0_0_2 := (HB2.out.1).z 0 (show 0 < 4 by decide)
  have fx0_1_2 := (HB2.out.1).at 1 (.string sa) rfl
  have fz0_1_2 := (HB2.out.1).z 1 (show 1 < 4 by decide)
  have fx0_2_2 := (HB2.out.1).at 2 (.bool ma) rfl
  have fz0_2_2 := (HB2.out.1).z 2 (show 2 < 4 by decide)
  have fx0_3_2 := (HB2.out.1).at 3 (.string ta) rfl
  have fz0_3_2 := (HB2.out.1).z 3 (show 3 < 4 by decide)
  have HL3 := Below.setCs (c := w.heap.size) (by have := HO0.out; omega) [.bool nc, .string sc, .bool mc, .string tc] _ 0 HL2.out
  have HB3 := Bs.store (c := w.heap.size) [.bool nc, .string sc, .bool mc, .string tc] 0 0 HB2.out (by simp only [Bs.ap, Bs.ap0, List.length_cons, List.length_nil, and_true, true_and]; have := HO0.out; omega)
  simp only [setCs, setL, Bs.put, List.set_cons_succ, List.set_cons_zero, Nat.zero_add, Nat.reduceAdd] at HL3 HB3
  replace HL3 := Lib.hid HL3
  replace HB3 := Lib.hid HB3
  clear HL2 HB2
  go_wp2_with fail
  obtain ⟨W2, hW⟩ : ∃ W, ((((w1.setCell ⟨w.heap.size, 0, none⟩ (.bool nc)).setCell ⟨w.heap.size, 1, none⟩ (.string sc)).setCell ⟨w.heap.size, 2, none⟩ (.bool mc)).setCell ⟨w.heap.size, 3, none⟩ (.string tc)) = W := ⟨_, rfl⟩
  rw [hW] at HB3 HL3 ⊢
  clear hW fx0_0_2 fz0_0_2 fx0_1_2 fz0_1_2 fx0_2_2 fz0_2_2 fx0_3_2 fz0_3_2
  haveI := cls_some W2
  have fq0_2 : ∀ u : Cl W2, u.x.cell? ⟨w.heap.size, 2, none⟩ = some (.bool mc) := fun u => ((HB3.out.bel u.h).1).at 2 (.bool mc) rfl
  have fq0_3 : ∀ u : Cl W2, u.x.cell? ⟨w.heap.size, 3, none⟩ = some (.string tc) := fun u => ((HB3.out.bel u.h).1).at 3 (.string tc) rfl
  refine wp_region_cls (by kernel_rfl) ?_
  iterate 2 (go_big_quiet_step (fail))
  go_big_quiet_step ((go_at_call 24; exact quiet_cls H2.out _))
  iterate 1 (go_big_quiet_step (fail))
  refine wpQuiet_nil ?_
  intro w3 hw9
  have hb : Below W2.heap.size W2 w3 := by obtain ⟨u, rfl⟩ := hw9; exact u.h
  clear hw9 this fq0_2 fq0_3
  have HL4 := Lib.hid (bstep HL3.out hb)
  have HB4 := Lib.hid (HB3.out.bel hb)
  clear hb
  clear HL3 HB3
  have fx0_0_4 := (HB4.out.1).at 0 (.bool nc) rfl
  have fx0_1_4 := (HB4.out.1).at 1 (.string sc) rfl
  go_wp2_with fail
  refine (H3.out _).mono ?_
  rintro e w4 ⟨rfl, hb⟩
  have HL5 := Lib.hid (bstep HL4.out hb)
  have HB5 := Lib.hid (HB4.out.bel hb)
  clear hb
  clear HL4 HB4 fx0_0_4 fx0_1_4
  go_wp2
  go_ret
  exact ⟨rfl, HL5.out⟩
end Go.Proofs.Gv

namespace Go.Proofs.Gv
open Go Go.RowKit

set_option maxRecDepth 100000 in
set_option maxHeartbeats 4000000 in
theorem ratPrint_frac {na ma nc : Bool} {sa ta sc : ByteArray} (mc no : Bool) (tc so : ByteArray) (hq : eqI mc tc no so = false) (sx sy : ByteArray) (h1 : sx.size ≤ 1000000) (h2 : sy.size ≤ 1000000) (w : World)
    (H1 : ∀ W, Calls Tryd.prog 36 #[.agg #[.bool na, .string sa, .bool ma, .string ta]] W fun e w' => e = .returned (.agg #[.bool nc, .string sc, .bool mc, .string tc]) ∧ Below W.heap.size W w')
    (H2 : ∀ W, Calls Tryd.prog 24 #[.int .i64 1] W fun e w' => e = .returned (.agg #[.bool no, .string so]) ∧ Below W.heap.size W w')
    (H3 : ∀ W, Calls Tryd.prog 37 #[.agg #[.bool nc, .string sc]] W fun e w' => e = .returned (.string sx) ∧ Below W.heap.size W w')
    (H4 : ∀ W, Calls Tryd.prog 37 #[.agg #[.bool mc, .string tc]] W fun e w' => e = .returned (.string sy) ∧ Below W.heap.size W w')
    : Calls Tryd.prog 13 #[.agg #[.bool na, .string sa, .bool ma, .string ta]] w fun e w' => e = .returned (.string (sx ++ ⟨#[47]⟩ ++ sy)) ∧ Below w.heap.size w w' := by
  replace H1 := Lib.hid H1
  replace H2 := Lib.hid H2
  replace H3 := Lib.hid H3
  replace H4 := Lib.hid H4
  go_enter Tryd.func13, Tryd.ntmps13
  have HL0 := Lib.hid (Below.refl w.heap.size w)
  have HB0 := Lib.hid (show Bs [] w from trivial)
  have HO0 := Lib.hid (show w.heap.size ≤ w.heap.size from by have := HL0.out.size; first | omega | (simp at this; omega))
  have HL1 := Lib.hid (HL0.out.alloc HL0.out.size (.cells #[.bool na, .string sa, .bool ma, .string ta] 25))
  have HB1 := Lib.hid (HB0.out.push (w.heap.size) #[.bool na, .string sa, .bool ma, .string ta] 25 (by first | rfl | simp))
  clear HL0 HB0
  have fx0_0_1 := (HB1.out.1).at 0 (.bool na) rfl
  have fx0_1_1 := (HB1.out.1).at 1 (.string sa) rfl
  have fx0_2_1 := (HB1.out.1).at 2 (.bool ma) rfl
  have fx0_3_1 := (HB1.out.1).at 3 (.string ta) rfl
  go_wp2_with fail
  refine (H1.out _).mono ?_
  rintro e w1 ⟨rfl, hb⟩
  have HL2 := Lib.hid (bstep HL1.out hb)
  have HB2 := Lib.hid (HB1.out.bel hb)
  clear hb
  clear HL1 HB1 fx0_0_1 fx0_1_1 fx0_2_1 fx0_3_1
  have fx0_0_2 := (HB2.out.1).at 0 (.bool na) rfl
  have fz0_0_2 := (HB2.out.1).z 0 (show 0 < 4 by decide)
  have fx0_1_2 := (HB2.out.1).at 1 (.string sa) rfl
  have fz0_1_2 := (HB2.out.1).z 1 (show 1 < 4 by decide)
  have fx0_2_2 := (HB2.out.1).at 2 (.bool ma) rfl
  have fz0_2_2 := (HB2.out.1).z 2 (show 2 < 4 by decide)
  have fx0_3_2 := (HB2.out.1).at 3 (.string ta) rfl
  have fz0_3_2 := (HB2.out.1).z 3 (show 3 < 4 by decide)
  have HL3 := Below.setCs (c := w.heap.size) (by have := HO0.out; omega) [.bool nc, .string sc, .bool mc, .string tc] _ 0 HL2.out
  have HB3 := Bs.store (c := w.heap.size) [.bool nc, .string sc, .bool mc, .string tc] 0 0 HB2.out (by simp only [Bs.ap, Bs.ap0, List.length_cons, List.length_nil, and_true, true_and]; have := HO0.out; omega)
  simp only [setCs, setL, Bs.put, List.set_cons_succ, List.set_cons_zero, Nat.zero_add, Nat.reduceAdd] at HL3 HB3
  replace HL3 := Lib.hid HL3
  replace HB3 := Lib.hid HB3
  clear HL2 HB2
  go_wp2_with fail
  obtain ⟨W2, hW⟩ : ∃ W, ((((w1.setCell ⟨w.heap.size, 0, none⟩ (.bool nc)).setCell ⟨w.heap.size, 1, none⟩ (.string sc)).setCell ⟨w.heap.size, 2, none⟩ (.bool mc)).setCell ⟨w.heap.size, 3, none⟩ (.string tc)) = W := ⟨_, rfl⟩
  rw [hW] at HB3 HL3 ⊢
  clear hW fx0_0_2 fz0_0_2 fx0_1_2 fz0_1_2 fx0_2_2 fz0_2_2 fx0_3_2 fz0_3_2
  haveI := cls_some W2
  have fq0_2 : ∀ u : Cl W2, u.x.cell? ⟨w.heap.size, 2, none⟩ = some (.bool mc) := fun u => ((HB3.out.bel u.h).1).at 2 (.bool mc) rfl
  have fq0_3 : ∀ u : Cl W2, u.x.cell? ⟨w.heap.size, 3, none⟩ = some (.string tc) := fun u => ((HB3.out.bel u.h).1).at 3 (.string tc) rfl
  refine wp_region_cls (by kernel_rfl) ?_
  iterate 2 (go_big_quiet_step (fail))
  go_big_quiet_step ((go_at_call 24; exact quiet_cls H2.out _))
  iterate 1 (go_big_quiet_step (fail))
  refine wpQuiet_nil ?_
  intro w3 hw9
  have hb : Below W2.heap.size W2 w3 := by obtain ⟨u, rfl⟩ := hw9; exact u.h
  clear hw9 this fq0_2 fq0_3
  have HL4 := Lib.hid (bstep HL3.out hb)
  have HB4 := Lib.hid (HB3.out.bel hb)
  clear hb
  clear HL3 HB3
  go_wp2_with fail
  haveI := cls_some w3
  have fq0_0 : ∀ u : Cl w3, u.x.cell? ⟨w.heap.size, 0, none⟩ = some (.bool nc) := fun u => ((HB4.out.bel u.h).1).at 0 (.bool nc) rfl
  have fq0_1 : ∀ u : Cl w3, u.x.cell? ⟨w.heap.size, 1, none⟩ = some (.string sc) := fun u => ((HB4.out.bel u.h).1).at 1 (.string sc) rfl
  have fq0_2 : ∀ u : Cl w3, u.x.cell? ⟨w.heap.size, 2, none⟩ = some (.bool mc) := fun u => ((HB4.out.bel u.h).1).at 2 (.bool mc) rfl
  have fq0_3 : ∀ u : Cl w3, u.x.cell? ⟨w.heap.size, 3, none⟩ = some (.string tc) := fun u => ((HB4.out.bel u.h).1).at 3 (.string tc) rfl
  refine wp_region_cls (by kernel_rfl) ?_
  iterate 2 (go_big_quiet_step (fail))
  go_big_quiet_step ((go_at_call 37; exact quiet_cls H3.out _))
  iterate 3 (go_big_quiet_step (fail))
  go_big_quiet_step ((go_at_call 37; exact quiet_cls H4.out _))
  iterate 2 (go_big_quiet_step (fail))
  refine wpQuiet_nil ?_
  intro w4 hw9
  have hb : Below w3.heap.size w3 w4 := by obtain ⟨u, rfl⟩ := hw9; exact u.h
  clear hw9 this fq0_0 fq0_1 fq0_2 fq0_3
  have HL5 := Lib.hid (bstep HL4.out hb)
  have HB5 := Lib.hid (HB4.out.bel hb)
  clear hb
  clear HL4 HB4
  go_wp2
  go_ret
  exact ⟨rfl, HL5.out⟩
end Go.Proofs.Gv
