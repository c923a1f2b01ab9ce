/- The examples of the chapter on integers. -/
import Derived.Test.YtpnhccpfbeidlaaDoorIntV
import Derived.Test.YtpnhccpfbeidlaaDoorIntD
import Derived.Test.YtpnhccpfbeidlaaDoorIntE
import Derived.Test.YtpnhccpfbeidlaaDoorRootI
import Derived.Test.YtpnhccpfbeidlaaDoorPrint
namespace Go.Proofs.Gv
open Go Go.RowKit

theorem vsize {z : Int} (h : z.natAbs < 256 ^ 60) : (mg z.natAbs).size ≤ 60 := size_mg h
theorem vs {z : Int} (h : z.natAbs < 256 ^ 60) : (mg z.natAbs).size ≤ 1000000 := Nat.le_trans (vsize h) (by decide)
theorem vs15 {z : Int} (h : z.natAbs < 256 ^ 60) : (mg z.natAbs).size ≤ 15000000 := Nat.le_trans (vsize h) (by decide)

theorem div_uniq {a b q r q' r' : Int} (h : DivSpec a b q r) (h' : DivSpec a b q' r') : q = q' ∧ r = r' := by
  obtain ⟨e, h⟩ := h
  obtain ⟨e', h'⟩ := h'
  have hq : (q - q') * b = r' - r := by rw [Int.sub_mul]; omega
  have hz : q - q' = 0 := by
    rcases Int.lt_trichotomy (q - q') 0 with h1 | h1 | h1
    · rcases h with h | h <;> rcases h' with h' | h'
      · have : (q - q') * b ≤ (-1) * b := Int.mul_le_mul_of_nonneg_right (by omega) (by omega)
        omega
      · omega
      · omega
      · have : (-1) * b ≤ (q - q') * b := Int.mul_le_mul_of_nonpos_right (by omega) (by omega)
        omega
    · exact h1
    · rcases h with h | h <;> rcases h' with h' | h'
      · have : 1 * b ≤ (q - q') * b := Int.mul_le_mul_of_nonneg_right (by omega) (by omega)
        omega
      · omega
      · omega
      · have : (q - q') * b ≤ 1 * b := Int.mul_le_mul_of_nonpos_right (by omega) (by omega)
        omega
  have : q = q' := by omega
  subst this
  exact ⟨rfl, by omega⟩

theorem of_ex (z : Int) (h1 : -1000000000000 ≤ z) (h2 : z < 1000000000000) (w : World) : Calls Tryd.prog 15 #[.int .i64 z] w fun e w' => e = .returned (.agg #[.bool (sgn z), .string (mg z.natAbs)]) ∧ Below w.heap.size w w' :=
  Of_any z w (by omega) (by omega)
theorem mul_ex (w : World) : Calls Tryd.prog 14 #[.agg #[.bool (sgn 4294967296), .string (mg (4294967296 : Int).natAbs)], .agg #[.bool (sgn 4294967296), .string (mg (4294967296 : Int).natAbs)]] w fun e w' => e = .returned (.agg #[.bool (sgn 18446744073709551616), .string (mg (18446744073709551616 : Int).natAbs)]) ∧ Below w.heap.size w w' :=
  Mul_V 4294967296 4294967296 w (vs15 (by decide)) (vs15 (by decide))
theorem div_ex1 (w : World) : Calls Tryd.prog 17 #[.agg #[.bool (sgn (-7)), .string (mg (-7 : Int).natAbs)], .agg #[.bool (sgn 2), .string (mg (2 : Int).natAbs)]] w fun e w' => e = .returned (.tuple #[.agg #[.bool (sgn (-4)), .string (mg (-4 : Int).natAbs)], .agg #[.bool (sgn 1), .string (mg (1 : Int).natAbs)], .int .i64 0]) ∧ Below w.heap.size w w' := by
  refine (Div_any (sgn (-7)) (sgn 2) (mg (-7 : Int).natAbs) (mg (2 : Int).natAbs) w (vs15 (by decide)) (vs15 (by decide)) (by rw [bv_mg]; decide)).mono ?_
  rintro e w' ⟨q, r, rfl, hd, hb⟩
  rw [iv_V, iv_V] at hd
  obtain ⟨rfl, rfl⟩ := div_uniq hd (show DivSpec (-7) 2 (-4) 1 from ⟨by decide, .inl ⟨by decide, by decide⟩⟩)
  exact ⟨rfl, hb⟩
theorem div_ex2 (w : World) : Calls Tryd.prog 17 #[.agg #[.bool (sgn 7), .string (mg (7 : Int).natAbs)], .agg #[.bool (sgn (-2)), .string (mg (-2 : Int).natAbs)]] w fun e w' => e = .returned (.tuple #[.agg #[.bool (sgn (-4)), .string (mg (-4 : Int).natAbs)], .agg #[.bool (sgn (-1)), .string (mg (-1 : Int).natAbs)], .int .i64 0]) ∧ Below w.heap.size w w' := by
  refine (Div_any (sgn 7) (sgn (-2)) (mg (7 : Int).natAbs) (mg (-2 : Int).natAbs) w (vs15 (by decide)) (vs15 (by decide)) (by rw [bv_mg]; decide)).mono ?_
  rintro e w' ⟨q, r, rfl, hd, hb⟩
  rw [iv_V, iv_V] at hd
  obtain ⟨rfl, rfl⟩ := div_uniq hd (show DivSpec 7 (-2) (-4) (-1) from ⟨by decide, .inr ⟨by decide, by decide⟩⟩)
  exact ⟨rfl, hb⟩
theorem root_ex (w : World) : Calls Tryd.prog 18 #[.agg #[.bool (sgn 10), .string (mg (10 : Int).natAbs)], .int .i64 2] w fun e w' => e = .returned (.tuple #[.agg #[.bool (sgn 3), .string (mg (3 : Int).natAbs)], .int .i64 0]) ∧ Below w.heap.size w w' := by
  have h := Root_ok (sgn 10) (mg (10 : Int).natAbs) 2 w (vs (by decide)) (fun h => absurd h (by decide)) (by decide) (by decide)
  rw [bv_mg, nrt_eq (r := 3) (by decide) (by decide)] at h
  exact h
theorem power_ex (w : World) : Calls Tryd.prog 19 #[.agg #[.bool (sgn (-3)), .string (mg (-3 : Int).natAbs)], .int .i64 5] w fun e w' => e = .returned (.tuple #[.agg #[.bool (sgn (-243)), .string (mg (-243 : Int).natAbs)], .int .i64 0]) ∧ Below w.heap.size w w' := by
  have h := Power_any (sgn (-3)) (mg (-3 : Int).natAbs) 5 w (vs15 (by decide)) (by decide) (by decide)
  have hE : powE (-3) 5 = 0 := by
    have h2 : bl 3 ≤ 2 := bl_le_iff.2 (by decide)
    unfold powE
    rw [if_neg (by decide), if_neg (by show ¬ 65536 < 5 * bl 3; omega)]
  rw [iv_V, show powV (-3) 5 = -243 from by unfold powV; rw [if_pos hE]; decide, hE] at h
  exact h
theorem bits_ex (w : World) : Calls Tryd.prog 20 #[.agg #[.bool (sgn 18446744073709551616), .string (mg (18446744073709551616 : Int).natAbs)]] w fun e w' => e = .returned (.int .i64 65) ∧ Below w.heap.size w w' := by
  have h := Bits_any (sgn 18446744073709551616) (mg (18446744073709551616 : Int).natAbs) w (Nat.le_trans (vs (by decide)) (by decide))
  have e : bl 18446744073709551616 = 65 := by
    have h1 : bl 18446744073709551616 ≤ 65 := bl_le_iff.2 (by decide)
    have h2 : ¬ bl 18446744073709551616 ≤ 64 := fun h => absurd (bl_le_iff.1 h) (by decide)
    omega
  rw [bv_mg, show (18446744073709551616 : Int).natAbs = 18446744073709551616 from rfl, e] at h
  exact h
theorem print_ex (w : World) : Calls Tryd.prog 9 #[.agg #[.bool (sgn 18446744073709551616), .string (mg (18446744073709551616 : Int).natAbs)]] w fun e w' => e = .returned (.string ⟨#[49, 56, 52, 52, 54, 55, 52, 52, 48, 55, 51, 55, 48, 57, 53, 53, 49, 54, 49, 54]⟩) ∧ Below w.heap.size w w' := by
  have h := Print_any (sgn 18446744073709551616) (mg (18446744073709551616 : Int).natAbs) w (vs (by decide))
  have e : prT (sgn 18446744073709551616) 18446744073709551616 = [49, 56, 52, 52, 54, 55, 52, 52, 48, 55, 51, 55, 48, 57, 53, 53, 49, 54, 49, 54] := by
    unfold prT
    rw [if_neg (by decide), if_neg (by decide), dec_pad 20 _ (by decide) (.inr (by decide))]
    decide +kernel
  rw [bv_mg, show (18446744073709551616 : Int).natAbs = 18446744073709551616 from rfl, e] at h
  exact h

/-- Boxes of integers. -/
def Boxes (L : List (Nat × Bool × ByteArray)) (W : World) : Prop := ∀ x ∈ L, W.heap[x.1]? = some (.cells #[.bool x.2.1, .string x.2.2] 23 (0, 0))
theorem Boxes.nil (W : World) : Boxes [] W := fun x h => by cases h
theorem Boxes.below {L : List (Nat × Bool × ByteArray)} {W W1 W' : World} (h : Boxes L W) (hb : Below W1.heap.size W1 W') (e : W1.heap = W.heap := by rfl) : Boxes L W' := fun x hx => by
  have h1 := h x hx
  rw [hb.block _ (by rw [e]; exact (Array.getElem?_eq_some_iff.1 h1).1), e]
  exact h1
theorem Boxes.push {L : List (Nat × Bool × ByteArray)} {W : World} (h : Boxes L W) (n : Bool) (s : ByteArray) : Boxes ((W.heap.size, n, s) :: L) (W.alloc (.cells #[.bool n, .string s] 23)) := fun x hx => by
  rcases List.mem_cons.1 hx with rfl | hx
  · exact heap_alloc_new W _
  · have h1 := h x hx
    rw [Below.heap_alloc W _ _ (Array.getElem?_eq_some_iff.1 h1).1]
    exact h1
theorem Boxes.get {L : List (Nat × Bool × ByteArray)} {W : World} (h : Boxes L W) (b : Nat) (n : Bool) (s : ByteArray) (hm : (b, n, s) ∈ L) : W.cell? ⟨b, 0, none⟩ = some (.bool n) ∧ W.cell? ⟨b, 1, none⟩ = some (.string s) := by
  obtain ⟨c0, c1, _⟩ := blk_facts (h _ hm)
  exact ⟨c0, c1⟩
end Go.Proofs.Gv
