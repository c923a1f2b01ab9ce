/- word.Check: which errors it tells. -/
import Derived.Test.YtjnlfmhckdijlaaStr
import Derived.Test.YtjnlfmhckdijlaaShelf
import Derived.Lib.IndexLaws
set_option linter.unusedSimpArgs false
set_option linter.unusedVariables false
namespace Go.Proofs.Gv
open Go Go.RowKit

/-- The letters of all alphabets. -/
def ltrs : List UInt8 := [48, 49, 50, 51, 52, 53, 54, 55, 56, 57, 97, 98, 99, 100, 101, 102]
/-- The number of a letter; -1 if it is none. -/
def dg (c : UInt8) : Int := Lib.indexByte ltrs c

theorem indexByte_take (l : List UInt8) (c : UInt8) (q : Nat) : Lib.indexByte (l.take q) c = if 0 ≤ Lib.indexByte l c ∧ Lib.indexByte l c < q then Lib.indexByte l c else -1 := by
  induction l generalizing q with
  | nil => simp [Lib.indexByte]
  | cons b l ih =>
    rcases q with _ | q
    · simp [Lib.indexByte]; omega
    · have hge := Lib.indexByte_ge l c
      rw [List.take_succ_cons]
      unfold Lib.indexByte
      by_cases hb : (b == c) = true
      · rw [if_pos hb, if_pos hb, if_pos ⟨by omega, by omega⟩]
      · rw [if_neg hb, if_neg hb, ih q]
        by_cases h1 : Lib.indexByte l c = -1
        · simp [h1]
        · by_cases h2 : Lib.indexByte l c < q
          · have h3 : 0 ≤ Lib.indexByte l c ∧ Lib.indexByte l c < q := ⟨by omega, h2⟩
            rw [if_pos h3]
            have h4 : ¬ (Lib.indexByte l c == -1) = true := by simpa using h1
            rw [if_neg h4, if_pos ⟨by omega, by omega⟩]
          · have h3 : ¬ (0 ≤ Lib.indexByte l c ∧ Lib.indexByte l c < q) := fun h => h2 h.2
            rw [if_neg h3]
            have h4 : ¬ (Lib.indexByte l c == -1) = true := by simpa using h1
            rw [if_neg h4, if_pos (show ((-1 : Int) == -1) = true from rfl), if_neg (by omega)]
theorem dg_ge (c : UInt8) : -1 ≤ dg c := Lib.indexByte_ge _ _
theorem dg_lt (c : UInt8) : dg c < 16 := by
  have h := indexByte_take ltrs c 16
  rw [show ltrs.take 16 = ltrs by rfl] at h
  by_cases hc : 0 ≤ Lib.indexByte ltrs c ∧ Lib.indexByte ltrs c < (16 : Nat)
  · exact hc.2
  · rw [if_neg hc] at h
    unfold dg; omega
/-- The letter of a number. -/
def ltr (k : Nat) : UInt8 := ltrs.getD k 0
theorem dg_ltr (k : Nat) (h : k < 16) : dg (ltr k) = k := by
  have : ∀ k, k < 16 → dg (ltr k) = (k : Int) := by decide
  exact this k h
theorem ltr_dg (c : UInt8) (h : 0 ≤ dg c) : ltr (dg c).toNat = c := by
  have := (Lib.indexByte_some (l := ltrs) (c := c) (o := (dg c).toNat) (by unfold dg at h ⊢; omega)).1
  unfold ltr
  rw [List.getD_eq_getElem?_getD, this]; rfl

/-- Whether c is a letter of the alphabet of q letters. -/
def okL (q : Nat) (c : UInt8) : Bool := decide (0 ≤ dg c) && decide (dg c < q)
/-- Whether s is a word over the alphabet of q letters. -/
def okW (q : Nat) (s : ByteArray) : Bool := s.data.toList.all (okL q)
theorem okW_iff {q : Nat} {s : ByteArray} : okW q s = true ↔ ∀ j, j < s.size → okL q (at' s j) = true := by
  unfold okW
  rw [List.all_eq_true]
  have hl : s.data.toList.length = s.size := by simp
  constructor
  · intro h j hj
    refine h _ ?_
    unfold at'
    rw [List.getD_eq_getElem?_getD, List.getElem?_eq_getElem (by omega)]
    exact List.getElem_mem _
  · intro h c hc
    obtain ⟨j, hj, rfl⟩ := List.getElem_of_mem hc
    have := h j (by omega)
    unfold at' at this
    rwa [List.getD_eq_getElem?_getD, List.getElem?_eq_getElem hj] at this
/-- What Check answers. -/
def chk (q : Int) (s : ByteArray) : Int := if 1 ≤ q ∧ q ≤ 16 then if 65536 < s.size then 4 else if okW q.toNat s then 0 else 13 else 12

theorem ix_any (q : Nat) (hq : q ≤ 16) (c : UInt8) (w : World) :
    Calls Try.prog 26 #[.string ((⟨#[48, 49, 50, 51, 52, 53, 54, 55, 56, 57, 97, 98, 99, 100, 101, 102]⟩ : ByteArray).extract 0 q), .int .u8 c.toNat] w fun e w' => e = .returned (.int .i64 (if okL q c then dg c else -1)) ∧ w' = w :=
  (Try.strings_IndexByte _ _ w).mono fun e w' h => by
    refine ⟨?_, h.2⟩
    rw [h.1]
    congr 2
    have e1 : ((⟨#[48, 49, 50, 51, 52, 53, 54, 55, 56, 57, 97, 98, 99, 100, 101, 102]⟩ : ByteArray).extract 0 q).data.toList = ltrs.take q := by
      rw [ByteArray.data_extract, Array.toList_extract, List.extract_eq_take_drop]; simp [ltrs]
    have e2 : ((c.toNat : Int).toNat.toUInt8) = c := by simp
    rw [e1, e2, indexByte_take]
    unfold okL dg
    by_cases h1 : 0 ≤ Lib.indexByte ltrs c ∧ Lib.indexByte ltrs c < q
    · rw [if_pos h1]; simp [h1]
    · rw [if_neg h1]
      rw [if_neg (by simpa using h1)]
set_option maxRecDepth 100000 in
set_option maxHeartbeats 800000 in
theorem WCheck_any (q : Int) (s : ByteArray) (w : World) (hs : s.size ≤ 9223372036854775807) :
    Calls Try.prog 17 #[.int .i64 q, .string s] w fun e w' => e = .returned (.int .i64 (chk q s)) ∧ Dr w w' := by
  by_cases hq : 1 ≤ q ∧ q ≤ 16
  · obtain ⟨n, rfl⟩ : ∃ n : Nat, q = n := ⟨q.toNat, by omega⟩
    have q1 : (1 : Int) ≤ n := hq.1
    have q2 : (n : Int) ≤ 16 := hq.2
    have HQ := Lib.hid hq
    clear hq
    by_cases hl : 65536 < s.size
    · have HC := Lib.hid (show chk n s = 4 by unfold chk; rw [if_pos HQ.out, if_pos hl])
      go_enter Try.func17, Try.ntmps17
      go_wp2
      go_ret
      exact ⟨by rw [HC.out]; rfl, Dr.refl w⟩
    · have HC := Lib.hid (show chk n s = if okW n s then 0 else 13 by unfold chk; rw [if_pos HQ.out, if_neg hl]; simp)
      go_enter Try.func17, Try.ntmps17
      go_wp2
      go_loopw [16] (fun i wr => ∃ k : Nat, k ≤ s.size ∧ i = .int .i64 k ∧ (∀ j, j < k → okL n (at' s j) = true) ∧ Dr w wr) (fun i _ => s.size - (intOf i).toNat)
      case atStart => exact ⟨0, Nat.zero_le _, rfl, fun j hj => absurd hj (by omega), Dr.refl w⟩
      case round =>
        obtain ⟨k, hk, rfl, hok, hd⟩ := hrel
        have HO := Lib.hid hok
        clear hok
        by_cases hlt : k < s.size
        · have hx : (s[k]'(by omega)) = at' s k := at'_eq (by omega)
          have hi0 : (0 : Int) ≤ k := by omega
          have hi1 : (k : Int) < s.size := by omega
          by_cases hL : okL n (at' s k) = true
          · have HI := Lib.hid (show ∀ W, Calls Try.prog 26 #[.string ((⟨#[48, 49, 50, 51, 52, 53, 54, 55, 56, 57, 97, 98, 99, 100, 101, 102]⟩ : ByteArray).extract 0 n), .int .u8 (at' s k).toNat] W fun e w' => e = .returned (.int .i64 (dg (at' s k))) ∧ w' = W from fun W => (ix_any n (by omega) (at' s k) W).mono fun e w' h => ⟨by rw [h.1, if_pos hL], h.2⟩)
            have hge : 0 ≤ dg (at' s k) := by unfold okL at hL; simp at hL; exact hL.1
            have HL := Lib.hid hL
            clear hL
            go_wp2
            go_quiet ((go_at_call 26; exact Calls.quiet_of_same (HI.out _)))
            go_wp2
            go_roundw
            case rel => exact ⟨k + 1, by omega, by go_num, fun j hj => (by
              rcases Nat.lt_or_ge j k with h | h
              · exact HO.out j h
              · obtain rfl : j = k := by omega
                exact HL.out), hd.more _⟩
            case measure => simp [intOf]; omega
          · have HI := Lib.hid (show ∀ W, Calls Try.prog 26 #[.string ((⟨#[48, 49, 50, 51, 52, 53, 54, 55, 56, 57, 97, 98, 99, 100, 101, 102]⟩ : ByteArray).extract 0 n), .int .u8 (at' s k).toNat] W fun e w' => e = .returned (.int .i64 (-1)) ∧ w' = W from fun W => (ix_any n (by omega) (at' s k) W).mono fun e w' h => ⟨by rw [h.1, if_neg hL], h.2⟩)
            have HR := Lib.hid (show okW n s = false by
              rw [Bool.eq_false_iff]
              intro h
              exact hL (okW_iff.mp h k hlt))
            clear hL
            go_wp2
            go_quiet ((go_at_call 26; exact Calls.quiet_of_same (HI.out _)))
            go_wp2
            go_ret
            refine ⟨?_, hd.more _⟩
            rw [HC.out, HR.out]; rfl
        · have HR := Lib.hid (show okW n s = true from okW_iff.mpr fun j hj => HO.out j (by omega))
          obtain rfl : k = s.size := by omega
          go_wp2
          go_ret
          refine ⟨?_, hd⟩
          rw [HC.out, HR.out]; rfl
  · have HC := Lib.hid (show chk q s = 12 by unfold chk; rw [if_neg hq])
    by_cases q1 : 1 ≤ q
    · have q2 : ¬ q ≤ 16 := fun h => hq ⟨q1, h⟩
      clear hq
      go_enter Try.func17, Try.ntmps17
      go_wp2
      go_ret
      exact ⟨by rw [HC.out]; rfl, Dr.refl w⟩
    · clear hq
      go_enter Try.func17, Try.ntmps17
      go_wp2
      go_ret
      exact ⟨by rw [HC.out]; rfl, Dr.refl w⟩
end Go.Proofs.Gv
