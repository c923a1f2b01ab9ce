/- integer.divide: quotient and remainder of naturals. -/
import Derived.Test.YtlaakomeofldgaaShift
import Derived.Test.YtlaakomeofldgaaDivMath
import Derived.Test.YtlaakomeofldgaaCompare
import Derived.Test.YtlaakomeofldgaaBits
namespace Go.Proofs.Gv
open Go Go.RowKit

/-- Quotient and remainder in memory. -/
def RetDiv (w : World) (q r : Nat) (e : Ending) (w' : World) : Prop :=
  ∃ A c A' c', e = .returned (.tuple #[.slice A (nlen q) c, .slice A' (nlen r) c']) ∧ Nt w' w'.heap.size A c q ∧ Nt w' w'.heap.size A' c' r ∧ Below w.heap.size w w'

theorem Below.dr {B : Nat} {w w' : World} (h : Dr w w') : Below B w w' := by
  obtain ⟨n, rfl⟩ := h
  exact ⟨rfl, rfl, rfl, Nat.le_refl _, fun _ _ => rfl⟩

theorem Nt.later {w0 w1 w2 : World} {A : Option Addr} {c x : Nat} (h : Nt w0 w0.heap.size A c x) (hb : Below w0.heap.size w0 w1) (hd : Dr w1 w2) : Nt w2 w2.heap.size A c x :=
  h.next (hb.trans (Below.dr hd))
theorem Dr.self (w : World) : Dr w w := Dr.refl w
theorem Dr.step (w : World) : Dr w w.drew := ⟨1, rfl⟩

set_option maxRecDepth 100000 in
set_option maxHeartbeats 800000 in
theorem divide_less (A A' : Option Addr) (c c' x y : Nat) (w : World) (hx : Nt w w.heap.size A c x) (hy : Nt w w.heap.size A' c' y) (hlt : x < y) :
    Calls Try.prog 96 #[.slice A (nlen x) c, .slice A' (nlen y) c'] w (RetDiv w 0 x) := by
  have Hx := Lib.hid hx
  have Hy := Lib.hid hy
  have Hl := Lib.hid (cmpN_lt hlt)
  clear hx hy
  go_enter Try.func96, Try.ntmps96
  go_wp2_with fail
  refine (compare_any A A' c c' x y _ Hx.out Hy.out).mono ?_
  rw [Hl.out]
  rintro e w' ⟨rfl, n, rfl⟩
  go_wp2
  go_ret2
  exact ⟨none, 0, A, c, by rw [nlen_zero]; rfl, Nt.zero _ _ _ _ (by omega), (Hx.out.below (Below.dr (Dr.of w n))), Below.dr (Dr.of w n)⟩

theorem one_digit {y : Nat} (h : nlen y = 1) : D y 0 = y ∧ y < 4294967296 ∧ 0 < y := by
  have h1 := lt_pow_nlen y
  rw [h, Nat.pow_one] at h1
  refine ⟨by simp [D]; exact Nat.mod_eq_of_lt h1, h1, ?_⟩
  rcases Nat.eq_zero_or_pos y with e | e
  · subst e; rw [nlen_zero] at h; omega
  · exact e

/-- A row of one word, for a literal. -/
theorem one_row (w : World) {r : Nat} {V : Int} (hV : V = (r : Nat)) (hr : r < 4294967296) : (w.alloc (.cells #[.int .u32 V] 96)).rowIs w.heap.size 96 1 (u32s (D r)) :=
  World.rowIs_alloc w _ _ _ fun i hi => by
    have : i = 0 := by simpa using hi
    subst this; subst hV
    show some _ = some (Value.int .u32 (D r 0 : Nat))
    rw [show D r 0 = r by simp [D]; exact Nat.mod_eq_of_lt hr]
    rfl

set_option maxRecDepth 100000 in
set_option maxHeartbeats 800000 in
theorem divide_short (A A' : Option Addr) (c c' x y : Nat) (w : World) (hx : Nt w w.heap.size A c x) (hy : Nt w w.heap.size A' c' y) (hn : nlen x ≤ 10000000) (hlt : ¬ x < y) (h1 : nlen y = 1) :
    Calls Try.prog 96 #[.slice A (nlen x) c, .slice A' (nlen y) c'] w (RetDiv w (x / y) (x % y)) := by
  obtain ⟨e0, hy1, hy0⟩ := one_digit h1
  have hr := hy.rd
  rw [h1] at hr
  obtain ⟨g, rfl, hg, hcell⟩ := hr (by omega)
  have hc0 := hcell 0 (by omega)
  rw [e0] at hc0
  have hge : 0 ≤ cmpN x y := by unfold cmpN; rw [if_neg hlt]; split <;> omega
  have Hx := Lib.hid hx
  have Hy := Lib.hid hy
  have H1 := Lib.hid h1
  have hneg : ¬ cmpN x y < 0 := by omega
  clear hx hy hr hcell e0 h1
  go_enter Try.func96, Try.ntmps96
  go_wp2_with fail
  refine (compare_any A _ c c' x y _ Hx.out Hy.out).mono ?_
  rintro e w' ⟨rfl, n, rfl⟩
  rw [H1.out]
  have hx2 := Lib.hid (Hx.out.below (w' := w.drewN n) (Below.dr (Dr.of w n)))
  go_wp2_with fail
  refine (short_any A c x y _ hx2.out hn hy0 hy1).mono ?_
  rintro e w' ⟨A1, c1, rfl, hq, hb⟩
  have Hq := Lib.hid hq
  have Hb := Lib.hid hb
  clear hq hb
  have hr := Nat.mod_lt x hy0
  have Hr := Lib.hid (one_row w' (V := (x : Int) % (y : Int)) (r := x % y) (by omega) (by omega))
  have Hrl := Lib.hid (show x % y < B32 ^ 1 by rw [Nat.pow_one]; exact Nat.lt_of_lt_of_le hr (Nat.le_of_lt hy1))
  go_wp2_with fail
  refine (trim_row Hr.out Hrl.out (by omega)).mono ?_
  rintro e w2 ⟨rfl, rfl⟩
  go_wp2
  go_ret2
  have hb1 : Below w'.heap.size w' (w'.alloc (.cells #[.int .u32 ((x : Int) % (y : Int))] 96)) := (Below.refl _ _).alloc (Nat.le_refl _) _
  exact ⟨_, _, _, _, rfl, Hq.out.next hb1, Nt.of_digits Hr.out Hrl.out (by omega), ((Below.dr (Dr.of w n)).trans Hb.out).trans (hb1.mono Hb.out.size)⟩

end Go.Proofs.Gv
