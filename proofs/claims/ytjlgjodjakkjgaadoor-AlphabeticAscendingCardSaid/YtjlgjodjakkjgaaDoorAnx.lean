/- Alphabetic codes: the next word, in the program and in the reference. -/
import Derived.Test.YtjlgjodjakkjgaaDoorShelf
import Derived.Test.YtjlgjodjakkjgaaDoorAdvP
import Derived.Deep.RegionWith
import Derived.Lib.LastIndexByte
set_option linter.unusedSimpArgs false
set_option linter.unusedVariables false
namespace Go.Proofs.Gv
open Go Go.RowKit Go.Maps

/-- The last letter 0 ahead of index k. -/
def lzr (l : List UInt8) : Nat → Option Nat
  | 0 => none
  | k + 1 => if l[k]? = some 48 then some k else lzr l k
theorem lz_lt {l : List UInt8} : ∀ {k i : Nat}, lzr l k = some i → i < k
  | 0, i, h => by cases h
  | k + 1, i, h => by
    unfold lzr at h
    split at h
    · cases h; omega
    · have := lz_lt h; omega
def oB (l : List UInt8) : ByteArray := ⟨l.toArray⟩
theorem oB_size (l : List UInt8) : (oB l).size = l.length := by unfold oB; simp [ByteArray.size]
theorem oB_list (l : List UInt8) : (oB l).data.toList = l := rfl
theorem baExt {s t : ByteArray} (h : s.data.toList = t.data.toList) : s = t := by
  cases s; cases t
  congr 1
  exact Array.toList_inj.1 h
/-- The least word of n letters that is greater, and of which neither begins with the other. -/
def nxS (l : List UInt8) (n : Nat) : Option (List UInt8) := (lzr l (min n l.length)).map fun k => l.take k ++ 49 :: List.replicate (n - k - 1) 48
def nxB (s : ByteArray) (n : Nat) : Option ByteArray := (nxS s.data.toList n).map oB
def zB (n : Nat) : ByteArray := oB (List.replicate n 48)
theorem nxB_size {s u : ByteArray} {n : Nat} (h : nxB s n = some u) : u.size = n ∧ 1 ≤ n := by
  unfold nxB nxS at h
  rw [Option.map_map] at h
  obtain ⟨k, hk, rfl⟩ := Option.map_eq_some_iff.1 h
  have := lz_lt hk
  show (oB _).size = n ∧ _
  rw [oB_size, List.length_append, List.length_take, List.length_cons, List.length_replicate]
  omega
theorem zB_size (n : Nat) : (zB n).size = n := by unfold zB; rw [oB_size, List.length_replicate]
/-- The words of an ordered code. -/
def wrF : List Nat → ByteArray → Option (List ByteArray)
  | [], _ => some []
  | n :: r, w => match nxB w n with
    | none => none
    | some v => (wrF r v).map (v :: ·)
def wrd : List Nat → Option (List ByteArray)
  | [] => none
  | n :: r => (wrF r (zB n)).map (zB n :: ·)
theorem sz_list (s : ByteArray) : s.data.toList.length = s.size := Array.length_toList
theorem at_list (s : ByteArray) {j : Nat} (h : j < s.size) : s.data.toList[j]? = some (s.data[j]!) := by
  rw [Array.getElem?_toList, Array.getElem?_eq_getElem (by exact h), getElem!_pos s.data j (by exact h)]
theorem u48 {c : UInt8} : (c.toNat : Int) = 48 ↔ c = 48 := by
  constructor
  · intro h
    have : c.toNat = 48 := by omega
    exact UInt8.toNat_inj.1 (by rw [this]; rfl)
  · rintro rfl; rfl
theorem lib_lz (s : ByteArray) : ∀ k, k ≤ s.size → Lib.lastIdx s 48 k = match lzr s.data.toList k with | none => -1 | some i => (i : Int)
  | 0, _ => rfl
  | k + 1, h => by
    unfold Lib.lastIdx lzr
    rw [at_list s (show k < s.size by omega)]
    by_cases hc : s.data[k]! = 48
    · rw [if_pos (u48.2 hc), if_pos (by rw [hc])]
    · rw [if_neg (mt u48.1 hc), if_neg (by simpa using hc)]
      exact lib_lz s k (by omega)
theorem ext0 (s : ByteArray) (k : Nat) : (s.extract 0 k).data.toList = s.data.toList.take k := by
  rw [ByteArray.data_extract, Array.toList_extract, List.extract_eq_take_drop, List.drop_zero, Nat.sub_zero]
theorem ext0_size {s : ByteArray} {k : Nat} (h : k ≤ s.size) : (s.extract 0 k).size = k := by
  rw [← sz_list, ext0, List.length_take, sz_list]; omega
theorem lz_take (l : List UInt8) : ∀ {k m : Nat}, k ≤ m → lzr (l.take m) k = lzr l k
  | 0, m, _ => rfl
  | k + 1, m, h => by
    unfold lzr
    rw [List.getElem?_take, if_pos (show k < m by omega), lz_take l (show k ≤ m by omega)]
theorem lib_last {s : ByteArray} {m : Nat} (h : m ≤ s.size) : Lib.lastIndexByte (s.extract 0 m) 48 = match lzr s.data.toList m with | none => -1 | some i => (i : Int) := by
  unfold Lib.lastIndexByte
  rw [ext0_size h, lib_lz _ _ (by rw [ext0_size h]; exact Nat.le_refl _), ext0, lz_take _ (Nat.le_refl _)]
theorem rep48 (n : Nat) : (⟨(Lib.repeatL (⟨#[48]⟩ : ByteArray).data.toList n).toArray⟩ : ByteArray) = zB n := by
  unfold zB oB
  rw [show (⟨#[48]⟩ : ByteArray).data.toList = List.replicate 1 48 from rfl, Lib.repeatL_replicate, Nat.mul_one]
theorem join_nx (s : ByteArray) (k r : Nat) : s.extract 0 k ++ ⟨#[49]⟩ ++ zB r = oB (s.data.toList.take k ++ 49 :: List.replicate r 48) := by
  refine baExt ?_
  rw [oB_list, ByteArray.data_append, Array.toList_append, ByteArray.data_append, Array.toList_append, ext0, List.append_assoc]
  rfl
/-- What next answers. -/
def nxV : Option ByteArray → Value
  | none => .tuple #[.string ⟨#[]⟩, .bool false]
  | some u => .tuple #[.string u, .bool true]
set_option maxRecDepth 100000 in
set_option maxHeartbeats 1600000 in
theorem next_any (s : ByteArray) (n : Nat) (hs : s.size ≤ 1000) (hn : n ≤ 1000) (w : World) :
    Calls Tryd.prog 43 #[.string s, .int .i64 n] w fun e w' => e = .returned (nxV (nxB s n)) ∧ Below w.heap.size w w' := by
  obtain ⟨m, hm⟩ : ∃ m, min n s.size = m := ⟨_, rfl⟩
  have hmI : min (n : Int) (s.size : Int) = (m : Int) := by omega
  have hms : m ≤ s.size := by omega
  have hmn : m ≤ n := by omega
  have HN := Lib.hid (show nxB s n = (lzr s.data.toList m).map fun k => oB (s.data.toList.take k ++ 49 :: List.replicate (n - k - 1) 48) from by
    unfold nxB nxS; rw [sz_list, hm, Option.map_map]; rfl)
  have HLI := Lib.hid (fun W => Tryd.strings_LastIndexByte (s.extract 0 m) 48 (by rw [ext0_size hms]; omega) W)
  have HLL := Lib.hid (lib_last hms)
  clear hm
  cases hz : lzr s.data.toList m with
  | none =>
    have HC := Lib.hid (show ∀ W, Calls Tryd.prog 64 #[.string (s.extract 0 m), .int .u8 48] W fun e w' => e = .returned (.int .i64 (-1)) ∧ w' = W from fun W => by
      have := HLI.out W; rw [HLL.out, hz] at this; exact this)
    rw [hz] at HN
    clear hz HLI HLL
    go_enter Tryd.func43, Tryd.ntmps43
    go_wp2_with fail
    refine (HC.out _).mono ?_
    rintro e w1 ⟨rfl, e1⟩
    obtain rfl : w = w1 := e1.symm
    go_wp2
    go_ret2
    exact ⟨by rw [HN.out]; rfl, Below.refl _ _⟩
  | some k =>
    have hk := lz_lt hz
    have HC := Lib.hid (show ∀ W, Calls Tryd.prog 64 #[.string (s.extract 0 m), .int .u8 48] W fun e w' => e = .returned (.int .i64 (k : Int)) ∧ w' = W from fun W => by
      have := HLI.out W; rw [HLL.out, hz] at this; exact this)
    obtain ⟨r, hr⟩ : ∃ r, n - k - 1 = r := ⟨_, rfl⟩
    have hrI : (n : Int) - (k : Int) - 1 = (r : Int) := by omega
    have HRP := Lib.hid (fun W => Tryd.strings_Repeat ⟨#[48]⟩ r W (by omega) (by show 1 * r ≤ _; omega))
    rw [rep48] at HRP
    rw [hz] at HN
    have HN2 := Lib.hid (show nxB s n = some (s.extract 0 k ++ ⟨#[49]⟩ ++ zB r) from by rw [HN.out, join_nx, ← hr]; rfl)
    have hks : (k : Int) ≤ s.size := by omega
    have hzs : (zB r).size ≤ 1000 := by rw [zB_size]; omega
    obtain ⟨z, hzz⟩ : ∃ z, zB r = z := ⟨_, rfl⟩
    rw [hzz] at HRP HN2 hzs
    clear hz HLI HLL HN hr hzz
    go_enter Tryd.func43, Tryd.ntmps43
    go_wp2_with fail
    refine (HC.out _).mono ?_
    rintro e w1 ⟨rfl, e1⟩
    obtain rfl : w = w1 := e1.symm
    go_wp2_with fail
    refine wp_region_mix [.q [0, 1, 2, 3, 4, 5, 6, 7], .r 8, .q [9, 10, 11]] [] (by kernel_rfl) (by kernel_rfl) (by intro d v c a w h; cases d <;> exact h) ?_
    intro X0 hb0 hz0
    have HB0 := Lib.hid hb0
    clear hb0 hz0
    refine wpMix_q ?_
    simp only [pickO, List.map_cons, List.map_nil, List.getElem?_toArray, List.getElem?_cons_succ, List.getElem?_cons_zero, Option.getD_some]
    haveI := cv_some X0
    iterate 8 (go_big_quiet_step (fail))
    refine wpQuiet_nil ?_
    clear this
    refine wpMix_r ?_
    simp only [pickO, List.map_cons, List.map_nil, List.getElem?_toArray, List.getElem?_cons_succ, List.getElem?_cons_zero, Option.getD_some]
    go_wp2_with fail
    refine (HRP.out _).mono ?_
    rintro e w2 ⟨rfl, hb2⟩
    go_wp2_with fail
    refine mixQ_ok hb2 ?_
    have HB2 := Lib.hid (bstep HB0.out hb2)
    clear hb2
    refine wpMix_q ?_
    simp only [pickO, List.map_cons, List.map_nil, List.getElem?_toArray, List.getElem?_cons_succ, List.getElem?_cons_zero, Option.getD_some]
    haveI := cv_some w2
    iterate 3 (go_big_quiet_step (fail))
    refine wpQuiet_nil ?_
    clear this
    refine wpMix_nil ?_
    simp only [pickO, List.map_nil]
    go_wp2
    go_ret2
    exact ⟨by rw [HN2.out]; rfl, HB2.out⟩
end Go.Proofs.Gv
