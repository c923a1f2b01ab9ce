/- The reference implementation of integers: addMag. -/
import Derived.Test.YtlbgkhjelbadmaaRefBas
import Derived.BigQuiet
import Derived.Deep.QuietTactic
set_option linter.unusedSimpArgs false
set_option linter.unusedVariables false
namespace Go.Proofs.Gv
open Go Go.RowKit

theorem bv_of_digits (l : List UInt8) : ∀ z : Nat, z < 256 ^ l.length → (∀ j (h : j < l.length), l[j].toNat = z / 256 ^ (l.length - 1 - j) % 256) → bv l = z := by
  induction l using snoc_ind with
  | h0 => intro z hz _; simp at hz; subst hz; rfl
  | h1 l a ih =>
    intro z hz hd
    simp only [List.length_append, List.length_singleton] at hz hd
    have ha := hd l.length (by omega)
    rw [List.getElem_append_right (Nat.le_refl _)] at ha
    simp at ha
    rw [bv_snoc, ih (z / 256) (by rw [Nat.div_lt_iff_lt_mul (by decide)]; rwa [Nat.pow_succ] at hz) (fun j h => by
      have := hd j (by omega)
      rw [List.getElem_append_left h, show l.length + 1 - 1 - j = (l.length - 1 - j) + 1 by omega, Nat.pow_succ, Nat.mul_comm _ 256, ← Nat.div_div_eq_div_mul] at this
      exact this)]
    omega
/-- The carry into byte k of x + y. -/
def sc (x y k : Nat) : Nat := (x % 256 ^ k + y % 256 ^ k) / 256 ^ k
theorem sc_zero (x y : Nat) : sc x y 0 = 0 := by simp [sc, Nat.mod_one]
theorem mod_succ256 (x k : Nat) : x % 256 ^ (k + 1) = x % 256 ^ k + 256 ^ k * (x / 256 ^ k % 256) := by rw [Nat.pow_succ, Nat.mod_mul]
theorem sc_sum (x y k : Nat) : sc x y k + x / 256 ^ k % 256 + y / 256 ^ k % 256 = (x % 256 ^ (k + 1) + y % 256 ^ (k + 1)) / 256 ^ k := by
  have hp : 0 < 256 ^ k := Nat.pow_pos (by decide)
  rw [mod_succ256, mod_succ256, show x % 256 ^ k + 256 ^ k * (x / 256 ^ k % 256) + (y % 256 ^ k + 256 ^ k * (y / 256 ^ k % 256)) = (x % 256 ^ k + y % 256 ^ k) + 256 ^ k * (x / 256 ^ k % 256 + y / 256 ^ k % 256) by rw [Nat.mul_add]; omega, Nat.add_mul_div_left _ _ hp]
  unfold sc; omega
theorem sc_next (x y k : Nat) : (sc x y k + x / 256 ^ k % 256 + y / 256 ^ k % 256) / 256 = sc x y (k + 1) := by
  rw [sc_sum, Nat.div_div_eq_div_mul, ← Nat.pow_succ]; rfl
theorem sc_digit (x y k : Nat) : (sc x y k + x / 256 ^ k % 256 + y / 256 ^ k % 256) % 256 = (x + y) / 256 ^ k % 256 := by
  rw [sc_sum]
  have e : ∀ z, z / 256 ^ k % 256 = z % 256 ^ (k + 1) / 256 ^ k := fun z => by rw [Nat.pow_succ, Nat.mod_mul_right_div_self]
  rw [e, e, ← Nat.add_mod]
theorem sc_le (x y k : Nat) : sc x y k ≤ 1 := by
  have hp : 0 < 256 ^ k := Nat.pow_pos (by decide)
  have h1 := Nat.mod_lt x hp
  have h2 := Nat.mod_lt y hp
  have : sc x y k < 2 := by unfold sc; rw [Nat.div_lt_iff_lt_mul hp]; omega
  omega
/-- Byte k of a string, from its end; 0 beyond. -/
theorem byte_at (s : ByteArray) (k : Nat) (h : k < s.size) : (s[s.size - 1 - k]'(by omega)).toNat = bv s.data.toList / 256 ^ k % 256 := by
  have := bv_digit s.data.toList (s.size - 1 - k) (by simp; omega)
  rw [show s.data.toList.length - 1 - (s.size - 1 - k) = k by simp; omega] at this
  rw [this]; simp; rfl
theorem byte_beyond (s : ByteArray) (k : Nat) (h : s.size ≤ k) : bv s.data.toList / 256 ^ k % 256 = 0 := by
  have h1 := bv_lt s.data.toList
  have h2 : 256 ^ s.data.toList.length ≤ 256 ^ k := Nat.pow_le_pow_right (by decide) (by simpa using h)
  rw [Nat.div_eq_of_lt (by omega)]
def sumF (z n k j : Nat) : Value := .int .u8 ((if n - k ≤ j then z / 256 ^ (n - 1 - j) % 256 else 0 : Nat) : Int)
theorem mk_bytes (N : Int) (n : Nat) (e : N = n) (h : n ≤ 1000000000) (w : World) :
    (Instr.makeSlice 97 (.int .i64 N) (.int .i64 N)).run Try.prog w = .ok (.slice (some ⟨w.heap.size, 0, none⟩) n n) (w.alloc (.cells (madeCells #[.int .u8 0] n) 5)) := by
  subst e
  exact run_make_row' (P := Try.prog) 97 5 (.int .u8 0) 1 Try.underlying97 Try.info5z rfl .i64 .i64 n (by omega) (by omega) w

/-- The bytes of z in n places. -/
def bytesN (z n : Nat) : List UInt8 := (List.range n).map fun j => UInt8.ofNat (z / 256 ^ (n - 1 - j) % 256)
theorem bytesN_len (z n : Nat) : (bytesN z n).length = n := by simp [bytesN]
theorem bytesN_get (z n j : Nat) (h : j < n) : ((bytesN z n)[j]'(by rw [bytesN_len]; exact h)).toNat = z / 256 ^ (n - 1 - j) % 256 := by
  simp [bytesN]
theorem bv_bytesN {z n : Nat} (h : z < 256 ^ n) : bv (bytesN z n) = z :=
  bv_of_digits _ z (by rw [bytesN_len]; exact h) fun j hj => by
    rw [bytesN_len] at hj
    have := bytesN_get z n j hj
    rw [bytesN_len]
    exact this
/-- A row of all bytes of z, as a string. -/
theorem conv_bytes {wr : World} {g z n : Nat} (hrow : wr.rowIs g 5 n (sumF z n n)) :
    Sem.run Try.prog (Go.convert 97 9 (.slice (some ⟨g, 0, none⟩) n n)) wr = .ok (.string ⟨(bytesN z n).toArray⟩) wr := by
  have := run_convert_bytes_arg (P := Try.prog) wr 97 5 Try.underlying97 Try.underlying5 g 0 n n ((bytesN z n).map fun b => (b.toNat : Int)) (by simp [bytesN_len]) (fun a ha => by
    have ha' : a < n := by simpa [bytesN_len] using ha
    rw [Nat.zero_add, hrow.cell (i := a) ha']
    unfold sumF
    rw [if_pos (by omega), ← bytesN_get z n a ha']
    simp [List.getElem?_eq_getElem (show a < (bytesN z n).length by rw [bytesN_len]; exact ha')]) 9 Try.underlying9
  rw [this, str_of_u8s]
theorem size_bytesN (z n : Nat) : (⟨(bytesN z n).toArray⟩ : ByteArray).size = n := by simp [ByteArray.size, bytesN_len]
theorem trim_bytes {z n : Nat} (h : z < 256 ^ n) (hn : n ≤ 1000000) (W : World) :
    Calls Try.prog 99 #[.string ⟨(bytesN z n).toArray⟩] W fun e w' => e = .returned (.string (mg z)) ∧ W = w' := by
  have := rtrim_any ⟨(bytesN z n).toArray⟩ W (by rw [size_bytesN]; exact hn)
  rwa [show bv (⟨(bytesN z n).toArray⟩ : ByteArray).data.toList = z from bv_bytesN h] at this

set_option maxRecDepth 100000 in
set_option maxHeartbeats 1500000 in
theorem raddMag_any (s t : ByteArray) (w : World) (hs : s.size ≤ 100000) (ht : t.size ≤ 100000) :
    Calls Try.prog 97 #[.string s, .string t] w fun e w' => e = .returned (.string (mg (bv s.data.toList + bv t.data.toList))) ∧ Below w.heap.size w w' := by
  obtain ⟨m, hm⟩ : ∃ m : Nat, max (s.size : Int) t.size = m := ⟨max s.size t.size, by omega⟩
  have hmN : max s.size t.size = m := by omega
  have hmk := mk_bytes ((m : Int) + 1) (m + 1) (by omega) (by omega)
  obtain ⟨x, hx⟩ : ∃ x, bv s.data.toList = x := ⟨_, rfl⟩
  obtain ⟨y, hy⟩ : ∃ y, bv t.data.toList = y := ⟨_, rfl⟩
  rw [hx, hy]
  have BA := Lib.hid (fun k (h : k < s.size) => by have := byte_at s k h; rwa [hx] at this)
  have BB := Lib.hid (fun k (h : k < t.size) => by have := byte_at t k h; rwa [hy] at this)
  have BA0 := Lib.hid (fun k (h : s.size ≤ k) => by have := byte_beyond s k h; rwa [hx] at this)
  have BB0 := Lib.hid (fun k (h : t.size ≤ k) => by have := byte_beyond t k h; rwa [hy] at this)
  have hxl : Hid (x < 256 ^ s.size) := by unfold Hid; rw [← hx]; have := bv_lt s.data.toList; simpa using this
  have hyl : Hid (y < 256 ^ t.size) := by unfold Hid; rw [← hy]; have := bv_lt t.data.toList; simpa using this
  clear hx hy
  go_enter Try.func97, Try.ntmps97
  go_wp2
  clear hmk hm
  obtain ⟨W, hW⟩ : ∃ W, w.alloc (.cells (madeCells #[.int .u8 0] (m + 1)) 5) = W := ⟨_, rfl⟩
  have hrow : W.rowIs w.heap.size 5 (m + 1) (sumF (x + y) (m + 1) 0) := by
    rw [← hW]
    refine (World.rowIs_made w _ (m + 1) _).congr fun j hj => ?_
    unfold sumF; rw [if_neg (by omega)]; rfl
  have hB : Below w.heap.size w W := by rw [← hW]; exact (Below.refl _ _).alloc (Nat.le_refl _) _
  rw [hW]
  clear hW
  go_loopg [7, 8] (m + 2) (fun gg v7 v8 wr => ∃ k : Nat, v8 = .int .i64 ((k : Int) + 1) ∧ k ≤ m + 1 ∧ m + 2 - k ≤ gg ∧ v7 = .int .i64 (sc x y k : Nat) ∧ wr.rowIs w.heap.size 5 (m + 1) (sumF (x + y) (m + 1) k) ∧ Below w.heap.size w wr)
  case atStart => exact ⟨0, rfl, by omega, by omega, by rw [sc_zero]; rfl, hrow, hB⟩
  case round =>
    clear hrow hB
    obtain ⟨k, rfl, hk, hm, rfl, hrow, hbl⟩ := hrel
    have HR := Lib.hid hrow
    have HBL := Lib.hid hbl
    have hc1 := sc_le x y k
    have HN := Lib.hid (sc_next x y k)
    have HD := Lib.hid (sc_digit x y k)
    obtain ⟨c, hc⟩ : ∃ c, sc x y k = c := ⟨_, rfl⟩
    rw [hc] at HN HD hc1 ⊢
    clear hc
    have key : ∀ V : Int, V = ((c + x / 256 ^ k % 256 + y / 256 ^ k % 256 : Nat) : Int) → k < m + 1 → Value.int .i64 (V / 256) = .int .i64 (sc x y (k + 1) : Nat) ∧
        (wr.setCell ⟨w.heap.size, m - k, none⟩ (.int .u8 (V % 256))).rowIs w.heap.size 5 (m + 1) (sumF (x + y) (m + 1) (k + 1)) ∧ Below w.heap.size w (wr.setCell ⟨w.heap.size, m - k, none⟩ (.int .u8 (V % 256))) := fun V hV hkm => by
      subst hV
      refine ⟨by rw [← HN.out]; congr 1, (HR.out.set (m - k) _).congr (fun j hj => ?_), HBL.out.setCell (p := ⟨w.heap.size, m - k, none⟩) (Nat.le_refl _) _⟩
      unfold sumF
      by_cases e : j = m - k
      · rw [if_pos e, if_pos (by omega), show m + 1 - 1 - j = k by omega, ← HD.out]; congr 1
      · rw [if_neg e]
        by_cases e2 : m + 1 - k ≤ j
        · rw [if_pos e2, if_pos (by omega)]
        · rw [if_neg e2, if_neg (by omega)]
    have KEY := Lib.hid key
    clear key
    by_cases hkm : k < m + 1
    · have hkI : (k : Int) + 1 ≤ (m : Int) + 1 := by omega
      have hoc := hrow.cell (i := m - k) (by omega)
      have hof := hrow.frozen (m - k)
      unfold sumF at hoc
      clear hrow hbl
      by_cases h1 : k < s.size
      · have h1I : (k : Int) + 1 ≤ s.size := by omega
        obtain ⟨a, ha⟩ : ∃ a, s[s.size - (k + 1)]'(by omega) = a := ⟨_, rfl⟩
        have al := a.toNat_lt
        have hA := Lib.hid (show a.toNat = x / 256 ^ k % 256 by rw [← ha, ← BA.out k h1]; simp only [Nat.sub_sub, Nat.add_comm 1 k])
        by_cases h2 : k < t.size
        · have h2I : (k : Int) + 1 ≤ t.size := by omega
          obtain ⟨b, hb⟩ : ∃ b, t[t.size - (k + 1)]'(by omega) = b := ⟨_, rfl⟩
          have bl' := b.toNat_lt
          have hBb := Lib.hid (show b.toNat = y / 256 ^ k % 256 by rw [← hb, ← BB.out k h2]; simp only [Nat.sub_sub, Nat.add_comm 1 k])
          go_wp2
          obtain ⟨e1, e2, e3⟩ := KEY.out ((c : Int) + a.toNat + b.toNat) (by rw [← hA.out, ← hBb.out]; simp) hkm
          go_roundg (m + 1 - k)
          case rel => exact ⟨k + 1, by go_num, by omega, by omega, e1, e2, e3⟩
          case measure => omega
        · have h2I : decide ((k : Int) + 1 ≤ t.size) = false := decide_eq_false (by omega)
          have hBb := Lib.hid (BB0.out k (by omega))
          go_wp2
          obtain ⟨e1, e2, e3⟩ := KEY.out ((c : Int) + a.toNat) (by rw [← hA.out, hBb.out]; simp) hkm
          go_roundg (m + 1 - k)
          case rel => exact ⟨k + 1, by go_num, by omega, by omega, e1, e2, e3⟩
          case measure => omega
      · have h1I : decide ((k : Int) + 1 ≤ s.size) = false := decide_eq_false (by omega)
        have hA := Lib.hid (BA0.out k (by omega))
        by_cases h2 : k < t.size
        · have h2I : (k : Int) + 1 ≤ t.size := by omega
          obtain ⟨b, hb⟩ : ∃ b, t[t.size - (k + 1)]'(by omega) = b := ⟨_, rfl⟩
          have bl' := b.toNat_lt
          have hBb := Lib.hid (show b.toNat = y / 256 ^ k % 256 by rw [← hb, ← BB.out k h2]; simp only [Nat.sub_sub, Nat.add_comm 1 k])
          go_wp2
          obtain ⟨e1, e2, e3⟩ := KEY.out ((c : Int) + b.toNat) (by rw [hA.out, ← hBb.out]; simp) hkm
          go_roundg (m + 1 - k)
          case rel => exact ⟨k + 1, by go_num, by omega, by omega, e1, e2, e3⟩
          case measure => omega
        · have h2I : decide ((k : Int) + 1 ≤ t.size) = false := decide_eq_false (by omega)
          have hBb := Lib.hid (BB0.out k (by omega))
          go_wp2
          obtain ⟨e1, e2, e3⟩ := KEY.out (c : Int) (by rw [hA.out, hBb.out]; simp) hkm
          rw [show ((c : Int) % 256) = c by omega] at e2 e3
          go_roundg (m + 1 - k)
          case rel => exact ⟨k + 1, by go_num, by omega, by omega, e1, e2, e3⟩
          case measure => omega
    · have hkB : decide ((k : Int) + 1 ≤ (m : Int) + 1) = false := decide_eq_false (by omega)
      have hkB2 : decide ((k : Int) ≤ m) = false := decide_eq_false (by omega)
      obtain rfl : k = m + 1 := by omega
      have hz : x + y < 256 ^ (m + 1) := by
        have h1 : 256 ^ s.size ≤ 256 ^ m := Nat.pow_le_pow_right (by decide) (by omega)
        have h2 : 256 ^ t.size ≤ 256 ^ m := Nat.pow_le_pow_right (by decide) (by omega)
        have h3 := hxl.out
        have h4 := hyl.out
        rw [Nat.pow_succ]; omega
      have hcv := conv_bytes hrow
      have HT := Lib.hid (trim_bytes hz (by omega))
      clear hz hrow hbl hkm
      go_wp2_with (go_at_call 99; refine (HT.out _).mono ?_; rintro e w1 ⟨rfl, rfl⟩)
      go_ret
      exact ⟨rfl, HBL.out⟩
end Go.Proofs.Gv

namespace Go.Proofs.Gv
open Go Go.RowKit

/-- Byte k of x. -/
def D8 (x k : Nat) : Nat := x / 256 ^ k % 256
theorem D8_lt (x k : Nat) : D8 x k < 256 := Nat.mod_lt _ (by decide)
theorem p256_pos (k : Nat) : 0 < 256 ^ k := Nat.pow_pos (by decide)
theorem mod_succD8 (x k : Nat) : x % 256 ^ (k + 1) = x % 256 ^ k + 256 ^ k * D8 x k := mod_succ256 x k
/-- The borrow out of digit k of x - y. -/
def sw (x y k : Nat) : Nat := if x % 256 ^ k < y % 256 ^ k then 1 else 0
theorem sw_zero (x y : Nat) : sw x y 0 = 0 := by simp [sw, Nat.mod_one]
theorem sw_le (x y k : Nat) : sw x y k ≤ 1 := by unfold sw; split <;> omega
theorem sw_iff (x y k : Nat) : x % 256 ^ (k + 1) < y % 256 ^ (k + 1) ↔ D8 x k < sw x y k + D8 y k := by
  have h1 := Nat.mod_lt x (p256_pos k)
  have h2 := Nat.mod_lt y (p256_pos k)
  rw [mod_succD8, mod_succD8]
  unfold sw
  generalize x % 256 ^ k = a at *
  generalize y % 256 ^ k = b at *
  generalize D8 x k = dx
  generalize D8 y k = dy
  generalize 256 ^ k = P at *
  constructor
  · intro h
    by_cases hab : a < b
    · rw [if_pos hab]
      apply Classical.byContradiction
      intro hn
      have : P * (dy + 1) ≤ P * dx := Nat.mul_le_mul_left _ (by omega)
      rw [Nat.mul_add] at this
      omega
    · rw [if_neg hab]
      apply Classical.byContradiction
      intro hn
      have : P * dy ≤ P * dx := Nat.mul_le_mul_left _ (by omega)
      omega
  · intro h
    by_cases hab : a < b
    · rw [if_pos hab] at h
      have : P * dx ≤ P * dy := Nat.mul_le_mul_left _ (by omega)
      omega
    · rw [if_neg hab] at h
      have : P * (dx + 1) ≤ P * dy := Nat.mul_le_mul_left _ (by omega)
      rw [Nat.mul_add] at this
      omega

theorem sw_div {x y : Nat} (h : y ≤ x) (k : Nat) : (((x - y) / 256 ^ k : Nat) : Int) = ((x / 256 ^ k : Nat) : Int) - (y / 256 ^ k : Nat) - sw x y k := by
  have h1 := Nat.mod_lt x (p256_pos k)
  have h2 := Nat.mod_lt y (p256_pos k)
  have e1 := Nat.div_add_mod x (256 ^ k)
  have e2 := Nat.div_add_mod y (256 ^ k)
  have hd : y / 256 ^ k ≤ x / 256 ^ k := Nat.div_le_div_right h
  unfold sw
  generalize x % 256 ^ k = a at *
  generalize y % 256 ^ k = b at *
  have hp := p256_pos k
  generalize x / 256 ^ k = qx at *
  generalize y / 256 ^ k = qy at *
  generalize 256 ^ k = P at *
  obtain ⟨u, rfl⟩ : ∃ u, qx = qy + u := ⟨qx - qy, by omega⟩
  rw [Nat.mul_add] at e1
  by_cases hab : a < b
  · have hu : u ≠ 0 := by rintro rfl; omega
    obtain ⟨v, rfl⟩ : ∃ v, u = v + 1 := ⟨u - 1, by omega⟩
    have : (x - y) / P = v := by
      apply Nat.div_eq_of_lt_le
      · rw [Nat.mul_comm]; rw [Nat.mul_add] at e1; omega
      · rw [Nat.mul_comm, Nat.mul_add]; rw [Nat.mul_add] at e1; omega
    rw [this, if_pos hab]; omega
  · have : (x - y) / P = u := by
      apply Nat.div_eq_of_lt_le
      · rw [Nat.mul_comm]; omega
      · rw [Nat.mul_comm, Nat.mul_add]; omega
    rw [this, if_neg hab]; omega

theorem sw_digit {x y : Nat} (h : y ≤ x) (k : Nat) : ((D8 (x - y) k : Nat) : Int) = ((D8 x k : Int) - sw x y k - D8 y k) % 256 := by
  have e := sw_div h k
  unfold D8
  show (((x - y) / 256 ^ k % 256 : Nat) : Int) = (((x / 256 ^ k % 256 : Nat) : Int) - sw x y k - ((y / 256 ^ k % 256 : Nat) : Int)) % 256
  omega

theorem sw_neg {x y k : Nat} {e : Int} (h : y ≤ x) (he : e = (D8 y k : Nat)) (hneg : (D8 x k : Int) - sw x y k - e < 0) :
    sw x y (k + 1) = 1 ∧ (D8 x k : Int) - sw x y k - e + 256 = (D8 (x - y) k : Nat) := by
  subst he
  have h1 := D8_lt x k
  have h2 := D8_lt y k
  have h3 := sw_le x y k
  refine ⟨?_, by rw [sw_digit h]; omega⟩
  have := (sw_iff x y k).2 (by omega)
  unfold sw; rw [if_pos this]
theorem sw_nn {x y k : Nat} {e : Int} (h : y ≤ x) (he : e = (D8 y k : Nat)) (hneg : ¬ (D8 x k : Int) - sw x y k - e < 0) :
    sw x y (k + 1) = 0 ∧ (D8 x k : Int) - sw x y k - e = (D8 (x - y) k : Nat) := by
  subst he
  have h1 := D8_lt x k
  have h2 := D8_lt y k
  have h3 := sw_le x y k
  refine ⟨?_, by rw [sw_digit h]; omega⟩
  have := mt (sw_iff x y k).1 (by omega)
  unfold sw; rw [if_neg this]


set_option maxRecDepth 100000 in
set_option maxHeartbeats 2500000 in
theorem rsubMag_any (s t : ByteArray) (w : World) (hs : s.size ≤ 100000) (hts : t.size ≤ s.size) (hle : bv t.data.toList ≤ bv s.data.toList) :
    Calls Try.prog 98 #[.string s, .string t] w fun e w' => e = .returned (.string (mg (bv s.data.toList - bv t.data.toList))) ∧ Below w.heap.size w w' := by
  have hmk := mk_bytes (s.size : Int) s.size rfl (by omega)
  obtain ⟨x, hx⟩ : ∃ x, bv s.data.toList = x := ⟨_, rfl⟩
  obtain ⟨y, hy⟩ : ∃ y, bv t.data.toList = y := ⟨_, rfl⟩
  rw [hx, hy] at hle ⊢
  have HLE := Lib.hid hle
  have BA := Lib.hid (fun k (h : k < s.size) => by have := byte_at s k h; rwa [hx] at this)
  have BB := Lib.hid (fun k (h : k < t.size) => by have := byte_at t k h; rwa [hy] at this)
  have BB0 := Lib.hid (fun k (h : t.size ≤ k) => by have := byte_beyond t k h; rwa [hy] at this)
  have hxl : Hid (x < 256 ^ s.size) := by unfold Hid; rw [← hx]; have := bv_lt s.data.toList; simpa using this
  clear hx hy hle
  go_enter Try.func98, Try.ntmps98
  go_wp2
  clear hmk
  obtain ⟨W, hW⟩ : ∃ W, w.alloc (.cells (madeCells #[.int .u8 0] s.size) 5) = W := ⟨_, rfl⟩
  have hrow : W.rowIs w.heap.size 5 s.size (sumF (x - y) s.size 0) := by
    rw [← hW]
    refine (World.rowIs_made w _ s.size _).congr fun j hj => ?_
    unfold sumF; rw [if_neg (by omega)]; rfl
  have hB : Below w.heap.size w W := by rw [← hW]; exact (Below.refl _ _).alloc (Nat.le_refl _) _
  rw [hW]
  clear hW
  go_loopg [6, 7, 8] (s.size + 1) (fun gg v6 v7 v8 wr => ∃ k : Nat, v7 = .int .i64 ((k : Int) + 1) ∧ k ≤ s.size ∧ s.size + 1 - k ≤ gg ∧ v6 = .int .i64 (sw x y k : Nat) ∧ wr.rowIs w.heap.size 5 s.size (sumF (x - y) s.size k) ∧ Below w.heap.size w wr)
  case atStart => exact ⟨0, rfl, by omega, by omega, by rw [sw_zero]; rfl, hrow, hB⟩
  case round =>
    clear hrow hB
    obtain ⟨k, rfl, hk, hm, rfl, hrow, hbl⟩ := hrel
    have HR := Lib.hid hrow
    have HBL := Lib.hid hbl
    have hc1 := sw_le x y k
    have key : ∀ (V : Int) (b : Nat), V = (D8 (x - y) k : Nat) → b = sw x y (k + 1) → k < s.size → Value.int .i64 (b : Int) = .int .i64 (sw x y (k + 1) : Nat) ∧
        (wr.setCell ⟨w.heap.size, s.size - (k + 1), none⟩ (.int .u8 V)).rowIs w.heap.size 5 s.size (sumF (x - y) s.size (k + 1)) ∧ Below w.heap.size w (wr.setCell ⟨w.heap.size, s.size - (k + 1), none⟩ (.int .u8 V)) := fun V b hV hbb hkm => by
      subst hV; subst hbb
      refine ⟨rfl, (HR.out.set (s.size - (k + 1)) _).congr (fun j hj => ?_), HBL.out.setCell (p := ⟨w.heap.size, s.size - (k + 1), none⟩) (Nat.le_refl _) _⟩
      unfold sumF
      by_cases e : j = s.size - (k + 1)
      · rw [if_pos e, if_pos (by omega), show s.size - 1 - j = k by omega]; rfl
      · rw [if_neg e]
        by_cases e2 : s.size - k ≤ j
        · rw [if_pos e2, if_pos (by omega)]
        · rw [if_neg e2, if_neg (by omega)]
    have KEY := Lib.hid key
    clear key
    have hNEG := Lib.hid (fun (e : Int) (he : e = (D8 y k : Nat)) (h : (D8 x k : Int) - sw x y k - e < 0) => sw_neg HLE.out he h)
    have hNN := Lib.hid (fun (e : Int) (he : e = (D8 y k : Nat)) (h : ¬ (D8 x k : Int) - sw x y k - e < 0) => sw_nn HLE.out he h)
    have hdx := D8_lt x k
    obtain ⟨c, hc⟩ : ∃ c, sw x y k = c := ⟨_, rfl⟩
    rw [hc] at hNEG hNN hc1 ⊢
    clear hc
    by_cases hkm : k < s.size
    · have hkI : (k : Int) + 1 ≤ s.size := by omega
      have hoc := hrow.cell (i := s.size - (k + 1)) (by omega)
      have hof := hrow.frozen (s.size - (k + 1))
      unfold sumF at hoc
      clear hrow hbl
      obtain ⟨a, ha⟩ : ∃ a, s[s.size - (k + 1)]'(by omega) = a := ⟨_, rfl⟩
      have al := a.toNat_lt
      have hA : a.toNat = D8 x k := by rw [← ha]; have := BA.out k hkm; rw [show D8 x k = x / 256 ^ k % 256 from rfl, ← this]; simp only [Nat.sub_sub, Nat.add_comm 1 k]
      rw [← hA] at hNEG hNN
      clear hA hdx
      by_cases h2 : k < t.size
      · have h2I : (k : Int) + 1 ≤ t.size := by omega
        obtain ⟨b, hb⟩ : ∃ b, t[t.size - (k + 1)]'(by omega) = b := ⟨_, rfl⟩
        have bl' := b.toNat_lt
        have hBb : b.toNat = D8 y k := by rw [← hb]; have := BB.out k h2; rw [show D8 y k = y / 256 ^ k % 256 from rfl, ← this]; simp only [Nat.sub_sub, Nat.add_comm 1 k]
        by_cases hneg : (a.toNat : Int) - c - b.toNat < 0
        · obtain ⟨f1, f2⟩ := hNEG.out b.toNat (by rw [hBb]) hneg
          obtain ⟨e1, e2, e3⟩ := KEY.out ((a.toNat : Int) - c - b.toNat + 256) 1 f2 f1.symm hkm
          have E1 := Lib.hid e1
          have E2 := Lib.hid e2
          have E3 := Lib.hid e3
          clear f1 f2 e1 e2 e3 hBb
          go_wp2
          go_roundg (s.size - k)
          case rel => exact ⟨k + 1, by go_num, by omega, by omega, E1.out, E2.out, E3.out⟩
          case measure => omega
        · obtain ⟨f1, f2⟩ := hNN.out b.toNat (by rw [hBb]) hneg
          obtain ⟨e1, e2, e3⟩ := KEY.out ((a.toNat : Int) - c - b.toNat) 0 f2 f1.symm hkm
          have E1 := Lib.hid e1
          have E2 := Lib.hid e2
          have E3 := Lib.hid e3
          have hneg2 : decide ((a.toNat : Int) - c - b.toNat < 0) = false := decide_eq_false hneg
          clear f1 f2 e1 e2 e3 hBb
          go_wp2
          go_roundg (s.size - k)
          case rel => exact ⟨k + 1, by go_num, by omega, by omega, E1.out, E2.out, E3.out⟩
          case measure => omega
      · have h2I : decide ((k : Int) + 1 ≤ t.size) = false := decide_eq_false (by omega)
        have hB0 : (0 : Int) = (D8 y k : Nat) := by have := BB0.out k (by omega); unfold D8; omega
        by_cases hneg : (a.toNat : Int) - c < 0
        · obtain ⟨f1, f2⟩ := hNEG.out 0 hB0 (by omega)
          obtain ⟨e1, e2, e3⟩ := KEY.out ((a.toNat : Int) - c + 256) 1 (by rw [← f2]; omega) f1.symm hkm
          have E1 := Lib.hid e1
          have E2 := Lib.hid e2
          have E3 := Lib.hid e3
          clear f1 f2 e1 e2 e3 hB0
          go_wp2
          go_roundg (s.size - k)
          case rel => exact ⟨k + 1, by go_num, by omega, by omega, E1.out, E2.out, E3.out⟩
          case measure => omega
        · obtain ⟨f1, f2⟩ := hNN.out 0 hB0 (by omega)
          obtain ⟨e1, e2, e3⟩ := KEY.out ((a.toNat : Int) - c) 0 (by rw [← f2]; omega) f1.symm hkm
          have E1 := Lib.hid e1
          have E2 := Lib.hid e2
          have E3 := Lib.hid e3
          have hneg2 : decide ((a.toNat : Int) - c < 0) = false := decide_eq_false hneg
          clear f1 f2 e1 e2 e3 hB0
          go_wp2
          go_roundg (s.size - k)
          case rel => exact ⟨k + 1, by go_num, by omega, by omega, E1.out, E2.out, E3.out⟩
          case measure => omega
    · have hkB : decide ((k : Int) + 1 ≤ s.size) = false := decide_eq_false (by omega)
      have hke : k = s.size := by omega
      have hz : x - y < 256 ^ s.size := Nat.lt_of_le_of_lt (Nat.sub_le _ _) hxl.out
      rw [hke] at hrow
      have hcv := conv_bytes hrow
      have HT := Lib.hid (trim_bytes hz (by omega))
      clear hz hrow hbl hkm hke
      go_wp2_with (go_at_call 99; refine (HT.out _).mono ?_; rintro e w1 ⟨rfl, rfl⟩)
      go_ret
      exact ⟨rfl, HBL.out⟩
end Go.Proofs.Gv

namespace Go.Proofs.Gv
open Go Go.RowKit

end Go.Proofs.Gv

namespace Go.Proofs.Gv
open Go Go.RowKit

end Go.Proofs.Gv
