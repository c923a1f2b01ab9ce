/- The reference implementation of integers: Div: its state. -/
import Derived.Test.YtlaakomeofldgaaRefAdd
import Derived.Test.YtlaakomeofldgaaRefDivM
namespace Go.Proofs.Gv
open Go Go.RowKit

/-- The boxes of Div: a, b, the two results, q, r. -/
structure DvSt (w W : World) (b7 : Nat) (n1 : Bool) (s1 : ByteArray) (n2 : Bool) (s2 : ByteArray) (n7 : Bool) (s7 : ByteArray) (n8 : Bool) (s8 : ByteArray) : Prop where
  be : Below w.heap.size w W
  x0 : Bx W w.heap.size n1 s1
  x1 : Bx W (w.heap.size + 1) n2 s2
  x2 : Bx W (w.heap.size + 1 + 1) false ⟨#[]⟩
  x3 : Bx W (w.heap.size + 1 + 1 + 1) false ⟨#[]⟩
  x7 : Bx W b7 n7 s7
  x8 : Bx W (b7 + 1) n8 s8
  lt : w.heap.size + 3 < b7
theorem DvSt.below {w W W1 W' : World} {b7 : Nat} {n1 n2 n7 n8 : Bool} {s1 s2 s7 s8 : ByteArray} (h : DvSt w W b7 n1 s1 n2 s2 n7 s7 n8 s8) (hb : Below W1.heap.size W1 W') (e1 : W1.heap = W.heap := by rfl) (e2 : W1.os = W.os := by rfl) (e3 : W1.tape = W.tape := by rfl) (e4 : W1.output = W.output := by rfl) : DvSt w W' b7 n1 s1 n2 s2 n7 s7 n8 s8 := by
  have hb' : Below W.heap.size W W' := ⟨hb.os.trans e2, hb.tape.trans e3, hb.output.trans e4, by rw [← e1]; exact hb.size, fun k hk => by rw [← e1]; exact hb.block k (by rw [e1]; exact hk)⟩
  exact ⟨h.be.trans (hb'.mono h.be.size), h.x0.below hb e1, h.x1.below hb e1, h.x2.below hb e1, h.x3.below hb e1, h.x7.below hb e1, h.x8.below hb e1, h.lt⟩
theorem DvSt.set7 {w W : World} {b7 : Nat} {n1 n2 n7 n8 m : Bool} {s1 s2 s7 s8 t : ByteArray} (h : DvSt w W b7 n1 s1 n2 s2 n7 s7 n8 s8) : DvSt w ((W.setCell ⟨b7, 0, none⟩ (.bool m)).setCell ⟨b7, 1, none⟩ (.string t)) b7 n1 s1 n2 s2 m t n8 s8 := by
  have hl := h.lt
  exact ⟨(h.be.setCell (p := ⟨b7, 0, none⟩) (by show w.heap.size ≤ b7; omega) _).setCell (p := ⟨b7, 1, none⟩) (by show w.heap.size ≤ b7; omega) _, h.x0.other (by omega), h.x1.other (by omega), h.x2.other (by omega), h.x3.other (by omega), h.x7.set, h.x8.other (by omega), h.lt⟩
theorem DvSt.set8 {w W : World} {b7 : Nat} {n1 n2 n7 n8 m : Bool} {s1 s2 s7 s8 t : ByteArray} (h : DvSt w W b7 n1 s1 n2 s2 n7 s7 n8 s8) : DvSt w ((W.setCell ⟨b7 + 1, 0, none⟩ (.bool m)).setCell ⟨b7 + 1, 1, none⟩ (.string t)) b7 n1 s1 n2 s2 n7 s7 m t := by
  have hl := h.lt
  exact ⟨(h.be.setCell (p := ⟨b7 + 1, 0, none⟩) (by show w.heap.size ≤ b7 + 1; omega) _).setCell (p := ⟨b7 + 1, 1, none⟩) (by show w.heap.size ≤ b7 + 1; omega) _, h.x0.other (by omega), h.x1.other (by omega), h.x2.other (by omega), h.x3.other (by omega), h.x7.other (by omega), h.x8.set, h.lt⟩
theorem DvSt.res {w W : World} {b7 : Nat} {n1 n2 n7 n8 m m' : Bool} {s1 s2 s7 s8 t t' : ByteArray} (h : DvSt w W b7 n1 s1 n2 s2 n7 s7 n8 s8) :
    Below w.heap.size w ((((W.setCell ⟨w.heap.size + 1 + 1, 0, none⟩ (.bool m)).setCell ⟨w.heap.size + 1 + 1, 1, none⟩ (.string t)).setCell ⟨w.heap.size + 1 + 1 + 1, 0, none⟩ (.bool m')).setCell ⟨w.heap.size + 1 + 1 + 1, 1, none⟩ (.string t')) :=
  (((h.be.setCell (p := ⟨w.heap.size + 1 + 1, 0, none⟩) (by show w.heap.size ≤ w.heap.size + 1 + 1; omega) _).setCell (p := ⟨w.heap.size + 1 + 1, 1, none⟩) (by show w.heap.size ≤ w.heap.size + 1 + 1; omega) _).setCell (p := ⟨w.heap.size + 1 + 1 + 1, 0, none⟩) (by show w.heap.size ≤ w.heap.size + 1 + 1 + 1; omega) _).setCell (p := ⟨w.heap.size + 1 + 1 + 1, 1, none⟩) (by show w.heap.size ≤ w.heap.size + 1 + 1 + 1; omega) _
theorem DvSt.res' {w W : World} {b7 : Nat} {n1 n2 n7 n8 m m' : Bool} {s1 s2 s7 s8 t t' : ByteArray} (h : DvSt w W b7 n1 s1 n2 s2 n7 s7 n8 s8) :
    Below w.heap.size w ((((W.setCell ⟨w.heap.size + 1 + 1 + 1, 0, none⟩ (.bool m)).setCell ⟨w.heap.size + 1 + 1 + 1, 1, none⟩ (.string t)).setCell ⟨w.heap.size + 1 + 1, 0, none⟩ (.bool m')).setCell ⟨w.heap.size + 1 + 1, 1, none⟩ (.string t')) :=
  (((h.be.setCell (p := ⟨w.heap.size + 1 + 1 + 1, 0, none⟩) (by show w.heap.size ≤ w.heap.size + 1 + 1 + 1; omega) _).setCell (p := ⟨w.heap.size + 1 + 1 + 1, 1, none⟩) (by show w.heap.size ≤ w.heap.size + 1 + 1 + 1; omega) _).setCell (p := ⟨w.heap.size + 1 + 1, 0, none⟩) (by show w.heap.size ≤ w.heap.size + 1 + 1; omega) _).setCell (p := ⟨w.heap.size + 1 + 1, 1, none⟩) (by show w.heap.size ≤ w.heap.size + 1 + 1; omega) _
theorem tdiv_nat (x y : Nat) : Int.tdiv (x : Int) (y : Int) = ((x / y : Nat) : Int) := rfl
theorem tmod_nat (x y : Nat) : Int.tmod (x : Int) (y : Int) = ((x % y : Nat) : Int) := rfl
/-- Div's answer. -/
def RetDv (w : World) (q r : Int) (e : Ending) (w' : World) : Prop :=
  e = .returned (.tuple #[.agg #[.bool (sgn q), .string (mg q.natAbs)], .agg #[.bool (sgn r), .string (mg r.natAbs)], .int .i64 0]) ∧ Below w.heap.size w w'
theorem sgn_nat (x : Nat) : sgn (x : Int) = false := by unfold sgn; exact decide_eq_false (by omega)
theorem nat_abs (x : Nat) : ((x : Int)).natAbs = x := Int.natAbs_natCast x
theorem dvN7 (Q : Nat) (X : World) (h : (mg Q).size ≤ 90000) : Calls Try.prog 99 #[.agg #[.bool false, .string (mg Q)]] X (fun e w' => e = .returned (.agg #[.bool (sgn (-(Q : Int))), .string (mg (-(Q : Int)).natAbs)]) ∧ Below X.heap.size X w') := by
  have := rneg_any false (mg Q) X (Nat.le_trans h (by decide))
  rwa [show iv false (mg Q) = (Q : Int) by unfold iv; simp [bv_mg]] at this
theorem dvS7 (Q : Nat) (X : World) (h : (mg Q).size ≤ 90000) : Calls Try.prog 100 #[.agg #[.bool (sgn (-(Q : Int))), .string (mg (-(Q : Int)).natAbs)], .agg #[.bool false, .string (mg 1)]] X (fun e w' => e = .returned (.agg #[.bool (sgn (-(Q : Int) - 1)), .string (mg (-(Q : Int) - 1).natAbs)]) ∧ Below X.heap.size X w') :=
  rSub_any _ _ _ _ (-(Q : Int)) 1 X ⟨iv_V _, by rw [Int.natAbs_neg, Int.natAbs_natCast]; exact Nat.le_trans h (by decide)⟩ ⟨iv_V 1, Nat.le_trans (size_mg (n := 1) (k := 1) (by decide)) (by decide)⟩ (by rw [Int.natAbs_neg, Int.natAbs_natCast]; exact Nat.le_trans h (by decide)) (Nat.le_trans (size_mg (n := 1) (k := 1) (by decide)) (by decide))
theorem dvS8 (B R : Nat) (X : World) (h : (mg B).size ≤ 90000) (h' : (mg R).size ≤ 90000) : Calls Try.prog 100 #[.agg #[.bool false, .string (mg B)], .agg #[.bool false, .string (mg R)]] X (fun e w' => e = .returned (.agg #[.bool (sgn ((B : Int) - R)), .string (mg ((B : Int) - R).natAbs)]) ∧ Below X.heap.size X w') :=
  rSub_any _ _ _ _ (B : Int) (R : Int) X ⟨by unfold iv; simp [bv_mg], Nat.le_trans h (by decide)⟩ ⟨by unfold iv; simp [bv_mg], Nat.le_trans h' (by decide)⟩ (Nat.le_trans h (by decide)) (Nat.le_trans h' (by decide))
theorem dvN8 (B R : Nat) (X : World) (h : (mg B).size ≤ 90000) (hl : R < B) : Calls Try.prog 99 #[.agg #[.bool (sgn ((B : Int) - R)), .string (mg ((B : Int) - R).natAbs)]] X (fun e w' => e = .returned (.agg #[.bool (sgn (-((B : Int) - R))), .string (mg (-((B : Int) - R)).natAbs)]) ∧ Below X.heap.size X w') := by
  have := rneg_any (sgn ((B : Int) - R)) (mg ((B : Int) - R).natAbs) X (Nat.le_trans (mg_mono (show ((B : Int) - R).natAbs ≤ B by omega)) (Nat.le_trans h (by decide)))
  rwa [iv_V] at this
end Go.Proofs.Gv
