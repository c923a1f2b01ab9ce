/- Integers as values: sign and bytes. -/
import Derived.Test.YtglgiofjgfbfgaaCompareP
import Derived.Test.YtglgiofjgfbfgaaTrimP
set_option linter.unusedSimpArgs false
set_option linter.unusedVariables false
namespace Go.Proofs.Gv
open Go Go.RowKit

/-- The value of a sign and bytes. -/
def iv (ng : Bool) (s : ByteArray) : Int := if ng then -(bv s.data.toList : Int) else bv s.data.toList
/-- The sign and the bytes of a number. -/
def sgn (z : Int) : Bool := decide (z < 0)
def V (z : Int) : Value := .agg #[.bool (sgn z), .string (mg z.natAbs)]
/-- The canonical integer z comes back; nothing that was there has turned. -/
def RetI (w : World) (z : Int) (e : Ending) (w' : World) : Prop := e = .returned (.agg #[.bool (sgn z), .string (mg z.natAbs)]) ∧ Below w.heap.size w w'

theorem sg_eq (ng : Bool) (n : Nat) : sg ng n = sgn (if ng then -(n : Int) else n) := by
  unfold sg sgn
  cases ng
  · simp
  · by_cases e : n = 0
    · subst e; simp
    · have h : -(n : Int) < 0 := by omega
      have h2 : (n == 0) = false := by simpa using e
      rw [h2, if_pos rfl, decide_eq_true h]; rfl
theorem abs_eq (ng : Bool) (n : Nat) : (if ng then -(n : Int) else n).natAbs = n := by cases ng <;> simp
theorem RetInt.toI {w : World} {ng : Bool} {n : Nat} {z : Int} {e : Ending} {w' : World} (h : RetInt w ng n e w') (hz : z = if ng then -(n : Int) else n) : RetI w z e w' := by
  subst hz
  refine ⟨?_, h.2⟩
  rw [h.1, sg_eq, abs_eq]

theorem mg_list (n : Nat) : (mg n).data.toList = byt n := by simp [mg]
theorem bv_mg (n : Nat) : bv (mg n).data.toList = n := by rw [mg_list, bv_byt]
theorem iv_V (z : Int) : iv (sgn z) (mg z.natAbs) = z := by
  unfold iv sgn
  rw [bv_mg]
  by_cases h : z < 0
  · simp [h]; omega
  · simp [h]; omega
theorem size_mg {n k : Nat} (h : n < 256 ^ k) : (mg n).size ≤ k := by
  have := byt_len_le k n h
  have e : (mg n).size = (byt n).length := by simp [mg, ByteArray.size]
  omega
theorem iv_abs (ng : Bool) (s : ByteArray) : (iv ng s).natAbs = bv s.data.toList := by unfold iv; cases ng <;> simp
theorem iv_lt (ng : Bool) (s : ByteArray) : (iv ng s).natAbs < 256 ^ s.size := by
  rw [iv_abs]
  have := bv_lt s.data.toList
  rwa [show s.data.toList.length = s.size by simp] at this
theorem nlen_bv {s : ByteArray} : nlen (bv s.data.toList) ≤ (s.size + 3) / 4 := by
  apply nlen_le_of_lt
  have := bv_lt s.data.toList
  rw [show s.data.toList.length = s.size by simp] at this
  exact Nat.lt_of_lt_of_le this (pow256_le _)
/-- number at a natural of known value. -/
theorem number_nt (ng : Bool) (A : Option Addr) (c x : Nat) (w : World) (h : Nt w w.heap.size A c x) (hn : nlen x ≤ 10000000) :
    Calls Try.prog 44 #[.bool ng, .slice A (nlen x) c] w (RetInt w ng x) := by
  have := number_any ng A (nlen x) c (D x) w h.rd (fun i _ => D_lt x i) h.le h.bd hn
  rwa [val_D, Nat.mod_eq_of_lt (lt_pow_nlen x)] at this
/-- A block of two cells. -/
theorem blk_facts {w : World} {B t : Nat} {a b : Value} (h : w.heap[B]? = some (.cells #[a, b] t (0, 0))) :
    w.cell? ⟨B, 0, none⟩ = some a ∧ w.cell? ⟨B, 1, none⟩ = some b ∧ w.frozen? ⟨B, 0, none⟩ = false ∧ w.frozen? ⟨B, 1, none⟩ = false ∧ B < w.heap.size :=
  ⟨by simp [World.cell?, h], by simp [World.cell?, h], by simp [World.frozen?, h], by simp [World.frozen?, h], (Array.getElem?_eq_some_iff.1 h).1⟩
/-- The call's first blocks are these; nothing that was there has turned. -/
def Own (w W : World) (bs : List Obj) : Prop := (∀ i o, bs[i]? = some o → W.heap[w.heap.size + i]? = some o) ∧ Below w.heap.size w W
theorem Own.nil (w : World) : Own w w [] := ⟨fun i o h => by simp at h, Below.refl _ _⟩
theorem Own.push {w W : World} {bs : List Obj} (h : Own w W bs) (hs : W.heap.size = w.heap.size + bs.length) (o : Obj) : Own w (W.alloc o) (bs ++ [o]) := by
  refine ⟨fun i u hi => ?_, h.2.alloc (by omega) o⟩
  by_cases e : i = bs.length
  · subst e
    rw [List.getElem?_append_right (Nat.le_refl _)] at hi
    simp at hi
    subst hi
    rw [← hs]
    exact heap_alloc_new W o
  · have hlt : i < bs.length := by
      have := (List.getElem?_eq_some_iff.1 hi).1
      simp at this; omega
    rw [List.getElem?_append_left hlt] at hi
    have := h.1 i u hi
    exact (Below.heap_alloc W o _ (Array.getElem?_eq_some_iff.1 this).1).trans this
theorem Own.one (w : World) (a : Obj) : Own w (w.alloc a) [a] := (Own.nil w).push (by simp) a
theorem Own.two (w : World) (a b : Obj) : Own w ((w.alloc a).alloc b) [a, b] := (Own.one w a).push (by simp) b
theorem Own.three (w : World) (a b c : Obj) : Own w (((w.alloc a).alloc b).alloc c) [a, b, c] := (Own.two w a b).push (by simp) c
theorem Own.four (w : World) (a b c d : Obj) : Own w ((((w.alloc a).alloc b).alloc c).alloc d) [a, b, c, d] := (Own.three w a b c).push (by simp) d
theorem Own.next {w W W1 W' : World} {bs : List Obj} (h : Own w W bs) (hb : Below W1.heap.size W1 W') (e1 : W1.heap = W.heap := by rfl) (e2 : W1.os = W.os := by rfl) (e3 : W1.tape = W.tape := by rfl) (e4 : W1.output = W.output := by rfl) :
    Own w W' bs := by
  have hb' : Below W.heap.size W W' := ⟨hb.os.trans e2, hb.tape.trans e3, hb.output.trans e4, by rw [← e1]; exact hb.size, fun k hk => by rw [← e1]; exact hb.block k (by rw [e1]; exact hk)⟩
  exact ⟨fun i o hi => (hb'.block _ (Array.getElem?_eq_some_iff.1 (h.1 i o hi)).1).trans (h.1 i o hi), h.2.trans (hb'.mono h.2.size)⟩
theorem Own.dr {w W W' : World} {bs : List Obj} (h : Own w W bs) (hd : Dr W W') : Own w W' bs := by
  obtain ⟨n, rfl⟩ := hd
  exact ⟨h.1, h.2.trans ⟨rfl, rfl, rfl, Nat.le_refl _, fun _ _ => rfl⟩⟩
theorem Own.blk {w W : World} {bs : List Obj} (h : Own w W bs) (i n : Nat) {t : Nat} {a b : Value} (hi : bs[i]? = some (.cells #[a, b] t (0, 0))) (hn : n = w.heap.size + i) :
    W.cell? ⟨n, 0, none⟩ = some a ∧ W.cell? ⟨n, 1, none⟩ = some b ∧ W.frozen? ⟨n, 0, none⟩ = false ∧ W.frozen? ⟨n, 1, none⟩ = false ∧ n < W.heap.size := by
  subst hn
  exact blk_facts (h.1 i _ hi)
theorem Own.blk1 {w W : World} {bs : List Obj} (h : Own w W bs) (i n : Nat) {t : Nat} {a : Value} (hi : bs[i]? = some (.cells #[a] t (0, 0))) (hn : n = w.heap.size + i) :
    W.cell? ⟨n, 0, none⟩ = some a ∧ W.frozen? ⟨n, 0, none⟩ = false ∧ n < W.heap.size := by
  subst hn
  have h1 := h.1 i _ hi
  exact ⟨by simp [World.cell?, h1], by simp [World.frozen?, h1], (Array.getElem?_eq_some_iff.1 h1).1⟩
theorem Own.below {w W : World} {bs : List Obj} (h : Own w W bs) : Below w.heap.size w W := h.2
/-- Behind the two stores of a result into block n. -/
theorem Own.stored {w W : World} {bs : List Obj} (h : Own w W bs) (n : Nat) (hn : w.heap.size ≤ n) (a b : Value) : Below w.heap.size w ((W.setCell ⟨n, 0, none⟩ a).setCell ⟨n, 1, none⟩ b) :=
  (h.2.setCell (p := ⟨n, 0, none⟩) hn a).setCell (p := ⟨n, 1, none⟩) hn b
/-- In a world with the same heap. -/
theorem Nt.same {w w' : World} {A : Option Addr} {c x : Nat} (h : Nt w w.heap.size A c x) (e : w'.heap = w.heap := by rfl) : Nt w' w'.heap.size A c x :=
  ⟨h.le, h.bd, fun hn => by
    obtain ⟨g, e1, e2, e3⟩ := h.rd hn
    exact ⟨g, e1, by rw [e]; exact e2, fun j hj => by rw [World.cell?_of_block (w := w) (by rw [e])]; exact e3 j hj⟩⟩
end Go.Proofs.Gv

namespace Go.Proofs.Gv
open Go Go.RowKit

/-- The carry into digit k of x + y. -/
def carry (x y k : Nat) : Nat := (x % B32 ^ k + y % B32 ^ k) / B32 ^ k
theorem carry_zero (x y : Nat) : carry x y 0 = 0 := by simp [carry, Nat.mod_one]
theorem carry_le (x y k : Nat) : carry x y k ≤ 1 := by
  have h1 := Nat.mod_lt x (pow_pos k)
  have h2 := Nat.mod_lt y (pow_pos k)
  unfold carry
  have : (x % B32 ^ k + y % B32 ^ k) / B32 ^ k < 2 := by rw [Nat.div_lt_iff_lt_mul (pow_pos k)]; omega
  omega
theorem carry_sum (x y k : Nat) : D x k + carry x y k + D y k = (x % B32 ^ (k + 1) + y % B32 ^ (k + 1)) / B32 ^ k := by
  rw [mod_succ, mod_succ, show x % B32 ^ k + B32 ^ k * D x k + (y % B32 ^ k + B32 ^ k * D y k) = (x % B32 ^ k + y % B32 ^ k) + B32 ^ k * (D x k + D y k) by rw [Nat.mul_add]; omega]
  rw [Nat.add_mul_div_left _ _ (pow_pos k)]
  unfold carry; omega
theorem carry_next (x y k : Nat) : (D x k + carry x y k + D y k) / B32 = carry x y (k + 1) := by
  rw [carry_sum, Nat.div_div_eq_div_mul, ← Nat.pow_succ]; rfl
theorem carry_digit (x y k : Nat) : (D x k + carry x y k + D y k) % B32 = D (x + y) k := by
  have h : (x % B32 ^ (k + 1) + y % B32 ^ (k + 1)) % B32 ^ (k + 1) = (x + y) % B32 ^ (k + 1) := by rw [← Nat.add_mod]
  unfold D at *
  rw [show x / B32 ^ k % B32 + carry x y k + y / B32 ^ k % B32 = _ from carry_sum x y k]
  have e : ∀ z, z / B32 ^ k % B32 = z % B32 ^ (k + 1) / B32 ^ k := fun z => by rw [Nat.pow_succ, Nat.mod_mul_right_div_self]
  rw [e, e (x + y), h]
theorem carry_nextI (x y k : Nat) : ((D x k : Int) + carry x y k + D y k) / 4294967296 = (carry x y (k + 1) : Nat) := by
  rw [← carry_next]; show _ = (((_ + _ + _) / 4294967296 : Nat) : Int); omega
theorem carry_digitI (x y k : Nat) : ((D x k : Int) + carry x y k + D y k) % 4294967296 = (D (x + y) k : Nat) := by
  rw [← carry_digit]; show _ = (((_ + _ + _) % 4294967296 : Nat) : Int); omega
theorem carry_nextI0 (x : Nat) {y k : Nat} (h : nlen y ≤ k) : ((D x k : Int) + carry x y k) / 4294967296 = (carry x y (k + 1) : Nat) := by
  rw [← carry_nextI, D_high h]; simp
theorem carry_digitI0 (x : Nat) {y k : Nat} (h : nlen y ≤ k) : ((D x k : Int) + carry x y k) % 4294967296 = (D (x + y) k : Nat) := by
  rw [← carry_digitI, D_high h]; simp
theorem carry_last {x y n : Nat} (hx : x < B32 ^ n) (hy : y < B32 ^ n) : carry x y n = D (x + y) n := by
  unfold carry D
  rw [Nat.mod_eq_of_lt hx, Nat.mod_eq_of_lt hy, Nat.mod_eq_of_lt]
  rw [Nat.div_lt_iff_lt_mul (pow_pos n)]
  have : 2 * B32 ^ n ≤ B32 * B32 ^ n := Nat.mul_le_mul_right _ (by decide)
  omega

set_option maxHeartbeats 400000 in
theorem add_any (A A' : Option Addr) (c c' x y : Nat) (w : World) (hx : Nt w w.heap.size A c x) (hy : Nt w w.heap.size A' c' y) (hn : nlen x ≤ 10000000) (hn' : nlen y ≤ 10000000) :
    Calls Try.prog 85 #[.slice A (nlen x) c, .slice A' (nlen y) c'] w (RetNat w (x + y)) := by
  obtain ⟨lx, bx, rx⟩ := hx
  obtain ⟨ly, by', ry⟩ := hy
  go_enter Try.func85, Try.ntmps85
  go_upto_if 13 with fail
  go_cut [0, 1] (fun s0 s1 wx => w = wx ∧ ∃ (X Y : Nat) (A1 A2 : Option Addr) (c1 c2 : Nat), s0 = .slice A1 (nlen X) c1 ∧ s1 = .slice A2 (nlen Y) c2 ∧ Nt w w.heap.size A1 c1 X ∧ Nt w w.heap.size A2 c2 Y ∧ nlen X ≤ 10000000 ∧ nlen Y ≤ nlen X ∧ X + Y = x + y)
  case first =>
    go_wp2
    all_goals go_meet
    · exact ⟨rfl, y, x, A', A, c', c, rfl, rfl, ⟨ly, by', ry⟩, ⟨lx, bx, rx⟩, hn', by omega, Nat.add_comm _ _⟩
    · exact ⟨rfl, x, y, A, A', c, c', rfl, rfl, ⟨lx, bx, rx⟩, ⟨ly, by', ry⟩, hn, by omega, rfl⟩
  case rest =>
  clear hn hn' lx bx rx ly by' ry
  obtain ⟨rfl, X, Y, A1, A2, c1, c2, rfl, rfl, hx, hy, hn1, hge, hs⟩ := hcut
  have Hs := Lib.hid hs
  clear hs
  obtain ⟨lx, bx, rx⟩ := hx
  obtain ⟨ly, by', ry⟩ := hy
  have hmk := mk_nat ((nlen X : Int) + 1) (nlen X + 1) (by omega) (by omega)
  go_wp2
  clear hmk
  obtain ⟨W0, hW0⟩ : ∃ W0, w.alloc (.cells (madeCells #[.int .u32 0] (nlen X + 1)) 68) = W0 := ⟨_, rfl⟩
  have hrow0 : W0.rowIs w.heap.size 68 (nlen X + 1) (u32s fun _ => 0) := by rw [← hW0]; exact made_row w _
  have hb0 : Below w.heap.size w W0 := by rw [← hW0]; exact (Below.refl _ _).alloc (Nat.le_refl _) _
  rw [hW0]
  clear hW0
  go_loopw [6, 22] (fun cr i wr => ∃ k : Nat, k ≤ nlen X ∧ i = .int .i64 k ∧ cr = .int .u64 (carry X Y k : Nat) ∧ wr.rowIs w.heap.size 68 (nlen X + 1) (u32s fun j => if j < k then D (X + Y) j else 0) ∧ Below w.heap.size w wr)
    (fun _ i _ => nlen X - (intOf i).toNat)
  case atStart => exact ⟨0, Nat.zero_le _, rfl, by rw [carry_zero]; rfl, hrow0, hb0⟩
  case round =>
    obtain ⟨k, hk, rfl, rfl, hrow, hb⟩ := hrel
    by_cases hlt : k < nlen X
    · obtain ⟨g, rfl, hg, hcell⟩ := rx (by omega)
      have h1 := hcell k hlt
      have hc1 : wr.cell? ⟨g, k, none⟩ = some (.int .u32 (D X k : Nat)) := (hb.cell (p := ⟨g, k, none⟩) hg).trans h1
      have hd1 := D_lt' X k
      have hd2 := D_lt' Y k
      have hcr := carry_le X Y k
      have hoc := hrow.cell (i := k) (by omega)
      have hof := hrow.frozen k
      clear hcell rx h1
      by_cases hy' : k < nlen Y
      · obtain ⟨g', rfl, hg', hcell'⟩ := ry (by omega)
        have hc2 : wr.cell? ⟨g', k, none⟩ = some (.int .u32 (D Y k : Nat)) := (hb.cell (p := ⟨g', k, none⟩) hg').trans (hcell' k hy')
        clear hcell' ry
        go_wp2
        go_roundw
        case rel => exact ⟨k + 1, by omega, by go_num, by rw [carry_nextI], row_step hrow (carry_digitI X Y k), hb.setCell (p := ⟨w.heap.size, k, none⟩) (Nat.le_refl _) _⟩
        case measure => simp [intOf] <;> omega
      · have hy2 : ¬ (k : Int) < (nlen Y : Int) := by omega
        go_wp2
        go_roundw
        case rel => exact ⟨k + 1, by omega, by go_num, by rw [carry_nextI0 X (by omega)], row_step hrow (carry_digitI0 X (by omega)), hb.setCell (p := ⟨w.heap.size, k, none⟩) (Nat.le_refl _) _⟩
        case measure => simp [intOf] <;> omega
    · obtain rfl : k = nlen X := by omega
      have hoc := hrow.cell (i := nlen X) (by omega)
      have hof := hrow.frozen (nlen X)
      have hcr := carry_le X Y (nlen X)
      have hr2 := row_step (k := nlen X) (F := D (X + Y)) (V := (carry X Y (nlen X) : Nat)) hrow (by rw [carry_last (lt_pow_nlen X) (Nat.lt_of_lt_of_le (lt_pow_nlen Y) (Nat.pow_le_pow_right B32_pos hge))])
      have hz : X + Y < B32 ^ (nlen X + 1) := by
        have h1 := lt_pow_nlen X
        have h2 := Nat.lt_of_lt_of_le (lt_pow_nlen Y) (Nat.pow_le_pow_right B32_pos hge)
        have h3 : 2 * B32 ^ nlen X ≤ B32 * B32 ^ nlen X := Nat.mul_le_mul_right _ (by decide)
        rw [Nat.pow_succ, Nat.mul_comm (B32 ^ nlen X)]
        omega
      have Hr := Lib.hid (row_all hr2)
      have Hb := Lib.hid hb
      have Hz := Lib.hid hz
      clear hz hb hr2 hrow
      go_wp2_with fail
      refine (trim_row Hr.out Hz.out (by omega)).mono ?_
      rintro e w' ⟨rfl, rfl⟩
      go_wp2
      go_ret
      rw [← Hs.out]
      exact RetNat.of_row Hr.out Hz.out (by omega) (Hb.out.setCell (p := ⟨w.heap.size, nlen X, none⟩) (Nat.le_refl _) _)

end Go.Proofs.Gv
