/- Alphabetic codes: the look at lengths. -/
import Derived.Test.YtjlgjodjakkjgaaDoorHctnP
set_option linter.unusedSimpArgs false
set_option linter.unusedVariables false
namespace Go.Proofs.Gv
open Go Go.RowKit Go.Maps

/-- A slice of ints, wherever it lies. -/
def NSl (W : World) (a : Option Addr) (L : List Int) : Prop := ∀ (i : Nat) (x : Int), L[i]? = some x → ∃ A, a = some A ∧ W.cell? (A.add i) = some (.int .i64 x)
theorem NSl.below {W W' : World} {a : Option Addr} {L : List Int} (h : NSl W a L) (hb : Below W.heap.size W W') : NSl W' a L := fun i x hi => by
  obtain ⟨A, e, c0⟩ := h i x hi
  exact ⟨A, e, (hb.cell (World.block_lt_of_cell? _ _ c0)).trans c0⟩
theorem badA_any (k : Int) (w : World) : Calls Tryd.prog 41 #[.int .i64 k] w fun e w' => e = .returned (.bool (badL k)) ∧ w' = w := by
  unfold badL
  by_cases h1 : k < 1
  · rw [decide_eq_true h1]
    go_enter Tryd.func41, Tryd.ntmps41
    go_wp2
    go_ret
    exact ⟨rfl, rfl⟩
  · rw [decide_eq_false h1, Bool.false_or]
    by_cases h2 : 64 < k
    · rw [decide_eq_true h2]
      go_enter Tryd.func41, Tryd.ntmps41
      go_wp2
      go_ret
      exact ⟨rfl, rfl⟩
    · rw [decide_eq_false h2]
      go_enter Tryd.func41, Tryd.ntmps41
      go_wp2
      go_ret
      exact ⟨rfl, rfl⟩
set_option maxRecDepth 100000 in
set_option maxHeartbeats 1600000 in
theorem idxA_any (a : Option Addr) (c : Nat) (xs : List Int) (hx : xs.length ≤ maxLen) (w : World) (hv : NSl w a xs) :
    Calls Tryd.prog 58 #[.slice a xs.length c, .func (.func 41) #[] #[]] w fun e w' => ∃ r : Int, e = .returned (.int .i64 r) ∧ decide (0 ≤ r) = xs.any badL ∧ w' = w := by
  unfold maxLen at hx
  have HAT := Lib.hid hv
  clear hv
  go_enter Tryd.func58, Tryd.ntmps58
  go_wp2
  go_loopg [8] (xs.length + 1) (fun gg v8 wr => ∃ i : Nat, v8 = .int .i64 (i : Int) ∧ i ≤ xs.length ∧ xs.length - i < gg ∧ (xs.take i).any badL = false ∧ wr = w)
  case atStart => exact ⟨0, rfl, Nat.zero_le _, by omega, rfl, rfl⟩
  case round =>
    obtain ⟨i, rfl, hi, hig, hno, ew⟩ := hrel
    subst ew
    have HG := Lib.hid hig
    have HNO := Lib.hid hno
    clear hig hno
    by_cases hlt : i < xs.length
    · have hltI : (i : Int) < xs.length := by omega
      obtain ⟨x, hx2⟩ : ∃ x, xs[i]? = some x := ⟨xs[i], List.getElem?_eq_getElem hlt⟩
      obtain ⟨A, rfl, c0⟩ := HAT.out i _ hx2
      have HX2 := Lib.hid hx2
      have HCB := Lib.hid (fun W => badA_any x W)
      clear hx2
      cases hb : badL x with
      | true =>
        rw [hb] at HCB
        have HBB := Lib.hid hb
        clear hb
        go_wp2_with fail
        refine (HCB.out _).mono ?_
        rintro e w1 ⟨rfl, ew⟩
        subst ew
        go_wp2
        go_ret
        refine ⟨_, rfl, ?_, rfl⟩
        have : xs.any badL = true := List.any_eq_true.2 ⟨x, List.mem_of_getElem? HX2.out, HBB.out⟩
        rw [this]
        simp
      | false =>
        rw [hb] at HCB
        have HBB := Lib.hid hb
        clear hb
        go_wp2_with fail
        refine (HCB.out _).mono ?_
        rintro e w1 ⟨rfl, ew⟩
        subst ew
        go_wp2
        go_roundg (xs.length - i)
        case rel =>
          refine ⟨i + 1, by go_num, by omega, by omega, ?_, rfl⟩
          rw [List.take_add_one, HX2.out, List.any_append, HNO.out]
          simp [HBB.out]
        case measure => have := HG.out; omega
    · obtain rfl : i = xs.length := by omega
      have hB : decide ((xs.length : Int) < xs.length) = false := by simp
      go_wp2
      go_ret
      refine ⟨-1, rfl, ?_, rfl⟩
      have := HNO.out
      rw [List.take_length] at this
      rw [this]
      rfl
set_option maxHeartbeats 800000 in
theorem containsA_any (a : Option Addr) (c : Nat) (xs : List Int) (hx : xs.length ≤ maxLen) (w : World) (hv : NSl w a xs) :
    Calls Tryd.prog 40 #[.slice a xs.length c, .func (.func 41) #[] #[]] w fun e w' => e = .returned (.bool (xs.any badL)) ∧ w' = w := by
  have HI := Lib.hid (idxA_any a c xs hx w hv)
  clear hv
  go_enter Tryd.func40, Tryd.ntmps40
  go_wp2_with fail
  refine HI.out.mono ?_
  rintro e w1 ⟨r, rfl, hr, ew⟩
  subst ew
  have HR := Lib.hid hr
  clear hr
  go_wp2
  go_ret
  exact ⟨by rw [← HR.out]; rfl, rfl⟩
/-- The error of lengths. -/
def lenE (L : List Int) : Int := if L.length = 0 then 5 else if 64 < L.length then 4 else if L.any badL = true then 2 else 0
set_option maxRecDepth 100000 in
set_option maxHeartbeats 1600000 in
theorem checkL_any (a : Option Addr) (c : Nat) (L : List Int) (hL : L.length ≤ maxLen) (w : World) (h : NSl w a L) :
    Calls Tryd.prog 19 #[.slice a L.length c] w fun e w' => e = .returned (.int .i64 (lenE L)) ∧ w' = w := by
  have HCT := Lib.hid (containsA_any a c L hL w h)
  unfold maxLen at hL
  clear h
  by_cases h2 : L.length = 0
  · have h2I : ((L.length : Int) == 0) = true := by rw [h2]; rfl
    have HT := Lib.hid (show lenE L = 5 by unfold lenE; rw [if_pos h2])
    clear h2
    go_enter Tryd.func19, Tryd.ntmps19
    go_wp2
    go_ret
    exact ⟨by rw [HT.out]; rfl, rfl⟩
  have h2I : ((L.length : Int) == 0) = false := by rw [beq_eq_false_iff_ne]; omega
  by_cases h64 : 64 < L.length
  · have h64I : (64 : Int) < L.length := by omega
    have HT := Lib.hid (show lenE L = 4 by unfold lenE; rw [if_neg h2, if_pos h64])
    clear h2 h64
    go_enter Tryd.func19, Tryd.ntmps19
    go_wp2
    go_ret
    exact ⟨by rw [HT.out]; rfl, rfl⟩
  have h64I : decide ((64 : Int) < L.length) = false := by simp; omega
  have HT := Lib.hid (show lenE L = if L.any badL = true then 2 else 0 by unfold lenE; rw [if_neg h2, if_neg h64])
  clear h2 h64
  cases hb : L.any badL with
  | true =>
    rw [hb] at HCT HT
    clear hb
    go_enter Tryd.func19, Tryd.ntmps19
    go_wp2_with fail
    refine HCT.out.mono ?_
    rintro e w1 ⟨rfl, e1⟩
    obtain rfl : w = w1 := e1.symm
    go_wp2
    go_ret
    exact ⟨by rw [HT.out]; rfl, rfl⟩
  | false =>
    rw [hb] at HCT HT
    clear hb
    go_enter Tryd.func19, Tryd.ntmps19
    go_wp2_with fail
    refine HCT.out.mono ?_
    rintro e w1 ⟨rfl, e1⟩
    obtain rfl : w = w1 := e1.symm
    go_wp2
    go_ret
    exact ⟨by rw [HT.out]; rfl, rfl⟩
theorem lenE_ok {L : List Int} (h : lenE L = 0) : 1 ≤ L.length ∧ L.length ≤ 64 ∧ ∃ ds : List Nat, L = ds.map (fun (k : Nat) => (k : Int)) ∧ ∀ d ∈ ds, 1 ≤ d ∧ d ≤ 64 := by
  unfold lenE at h
  split at h
  · cases h
  · split at h
    · cases h
    · split at h
      · cases h
      · rename_i h1 h2 h3
        exact ⟨by omega, by omega, not_bad (by simpa using h3)⟩
set_option maxRecDepth 100000 in
set_option maxHeartbeats 1600000 in
theorem greatL_any (a : Option Addr) (c : Nat) (L : List Int) (hL : L.length ≤ maxLen) (w : World) :
    Calls Tryd.prog 4 #[.slice a L.length c] w fun e w' => e = .returned (.bool (decide (8 < L.length ∧ L.length ≤ 64 ∨ 68 < L.length))) ∧ w' = w := by
  unfold maxLen at hL
  by_cases h8 : 8 < L.length
  · have h8I : (8 : Int) < L.length := by omega
    by_cases h64 : L.length ≤ 64
    · have h64I : (L.length : Int) ≤ 64 := by omega
      have HT := Lib.hid (show decide (8 < L.length ∧ L.length ≤ 64 ∨ 68 < L.length) = true by simp; omega)
      go_enter Tryd.func4, Tryd.ntmps4
      go_wp2
      go_ret
      exact ⟨by rw [HT.out]; rfl, rfl⟩
    · have h64I : decide ((L.length : Int) ≤ 64) = false := by simp; omega
      by_cases h67 : 68 < L.length
      · have h67I : (68 : Int) < L.length := by omega
        have HT := Lib.hid (show decide (8 < L.length ∧ L.length ≤ 64 ∨ 68 < L.length) = true by simp; omega)
        go_enter Tryd.func4, Tryd.ntmps4
        go_wp2
        go_ret
        exact ⟨by rw [HT.out]; rfl, rfl⟩
      · have h67I : decide ((68 : Int) < L.length) = false := by simp; omega
        have HT := Lib.hid (show decide (8 < L.length ∧ L.length ≤ 64 ∨ 68 < L.length) = false by simp; omega)
        go_enter Tryd.func4, Tryd.ntmps4
        go_wp2
        go_ret
        exact ⟨by rw [HT.out]; rfl, rfl⟩
  · have h8I : decide ((8 : Int) < L.length) = false := by simp; omega
    have h67I : decide ((68 : Int) < L.length) = false := by simp; omega
    have HT := Lib.hid (show decide (8 < L.length ∧ L.length ≤ 64 ∨ 68 < L.length) = false by simp; omega)
    go_enter Tryd.func4, Tryd.ntmps4
    go_wp2
    go_ret
    exact ⟨by rw [HT.out]; rfl, rfl⟩
end Go.Proofs.Gv
