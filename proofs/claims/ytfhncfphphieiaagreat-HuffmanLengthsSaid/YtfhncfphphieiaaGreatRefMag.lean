import Derived.Test.YtfhncfphphieiaaGreatRefBas
import Derived.BigQuiet
import Derived.Deep.QuietTactic
set_option maxHeartbeats 4000000
set_option maxRecDepth 100000
set_option linter.unusedSimpArgs false
set_option linter.unusedVariables false
namespace Go.Proofs.Gv
open Go Go.RowKit
theorem bv_of_digits (l : List UInt8) : ∀ z : Nat, z < 256 ^ l.length → (∀ j (h : j < l.length), l[j].toNat = z / 256 ^ (l.length - 1 - j) % 256) → bv l = z := by
 induction l using snoc_ind with
 | h0 => intro z hz _; simp at hz; subst hz; rfl
 | h1 l a ih =>
   intro z hz hd
   simp only [List.length_append, List.length_singleton] at hz hd
   have ha := hd l.length (by omega)
   rw [List.getElem_append_right (Nat.le_refl _)] at ha
   simp at ha
   rw [bv_snoc, ih (z / 256) (by rw [Nat.div_lt_iff_lt_mul (by decide)]; rwa [Nat.pow_succ] at hz) (fun j h => by
    have := hd j (by omega)
    rw [List.getElem_append_left h, show l.length + 1 - 1 - j = (l.length - 1 - j) + 1 by omega, Nat.pow_succ, Nat.mul_comm _ 256, ← Nat.div_div_eq_div_mul] at this
    exact this)]
   omega
def sc (x y k : Nat) : Nat := (x % 256 ^ k + y % 256 ^ k) / 256 ^ k
theorem sc_zero (x y : Nat) : sc x y 0 = 0 := by simp [sc, Nat.mod_one]
theorem mod_succ256 (x k : Nat) : x % 256 ^ (k + 1) = x % 256 ^ k + 256 ^ k * (x / 256 ^ k % 256) := by rw [Nat.pow_succ, Nat.mod_mul]
theorem sc_sum (x y k : Nat) : sc x y k + x / 256 ^ k % 256 + y / 256 ^ k % 256 = (x % 256 ^ (k + 1) + y % 256 ^ (k + 1)) / 256 ^ k := by
 have hp : 0 < 256 ^ k := Nat.pow_pos (by decide)
 rw [mod_succ256, mod_succ256, show x % 256 ^ k + 256 ^ k * (x / 256 ^ k % 256) + (y % 256 ^ k + 256 ^ k * (y / 256 ^ k % 256)) = (x % 256 ^ k + y % 256 ^ k) + 256 ^ k * (x / 256 ^ k % 256 + y / 256 ^ k % 256) by rw [Nat.mul_add]; omega, Nat.add_mul_div_left _ _ hp]
 unfold sc; omega
theorem sc_next (x y k : Nat) : (sc x y k + x / 256 ^ k % 256 + y / 256 ^ k % 256) / 256 = sc x y (k + 1) := by
 rw [sc_sum, Nat.div_div_eq_div_mul, ← Nat.pow_succ]; rfl
theorem sc_digit (x y k : Nat) : (sc x y k + x / 256 ^ k % 256 + y / 256 ^ k % 256) % 256 = (x + y) / 256 ^ k % 256 := by
 rw [sc_sum]
 have e : ∀ z, z / 256 ^ k % 256 = z % 256 ^ (k + 1) / 256 ^ k := fun z => by rw [Nat.pow_succ, Nat.mod_mul_right_div_self]
 rw [e, e, ← Nat.add_mod]
theorem sc_le (x y k : Nat) : sc x y k ≤ 1 := by
 have hp : 0 < 256 ^ k := Nat.pow_pos (by decide)
 have h1 := Nat.mod_lt x hp
 have h2 := Nat.mod_lt y hp
 have : sc x y k < 2 := by unfold sc; rw [Nat.div_lt_iff_lt_mul hp]; omega
 omega
theorem byte_at (s : ByteArray) (k : Nat) (h : k < s.size) : (s[s.size - 1 - k]'(by omega)).toNat = bv s.data.toList / 256 ^ k % 256 := by
 have := bv_digit s.data.toList (s.size - 1 - k) (by simp; omega)
 rw [show s.data.toList.length - 1 - (s.size - 1 - k) = k by simp; omega] at this
 rw [this]; simp; rfl
theorem byte_beyond (s : ByteArray) (k : Nat) (h : s.size ≤ k) : bv s.data.toList / 256 ^ k % 256 = 0 := by
 have h1 := bv_lt s.data.toList
 have h2 : 256 ^ s.data.toList.length ≤ 256 ^ k := Nat.pow_le_pow_right (by decide) (by simpa using h)
 rw [Nat.div_eq_of_lt (by omega)]
def sumF (z n k j : Nat) : Value := .int .u8 ((if n - k ≤ j then z / 256 ^ (n - 1 - j) % 256 else 0 : Nat) : Int)
theorem mk_bytes (N : Int) (n : Nat) (e : N = n) (h : n ≤ 1000000000) (w : World) :
  (Instr.makeSlice 96 (.int .i64 N) (.int .i64 N)).run Tryz.prog w = .ok (.slice (some ⟨w.heap.size, 0, none⟩) n n) (w.alloc (.cells (madeCells #[.int .u8 0] n) 5)) := by
 subst e
 exact run_make_row' (P := Tryz.prog) 96 5 (.int .u8 0) 1 Tryz.underlying96 Tryz.info5z rfl .i64 .i64 n (by omega) (by omega) w
def bytesN (z n : Nat) : List UInt8 := (List.range n).map fun j => UInt8.ofNat (z / 256 ^ (n - 1 - j) % 256)
theorem bytesN_len (z n : Nat) : (bytesN z n).length = n := by simp [bytesN]
theorem bytesN_get (z n j : Nat) (h : j < n) : ((bytesN z n)[j]'(by rw [bytesN_len]; exact h)).toNat = z / 256 ^ (n - 1 - j) % 256 := by
 simp [bytesN]
theorem bv_bytesN {z n : Nat} (h : z < 256 ^ n) : bv (bytesN z n) = z :=
 bv_of_digits _ z (by rw [bytesN_len]; exact h) fun j hj => by
  rw [bytesN_len] at hj
  have := bytesN_get z n j hj
  rw [bytesN_len]
  exact this
theorem conv_bytes {wr : World} {g z n : Nat} (hrow : wr.rowIs g 5 n (sumF z n n)) :
  Sem.run Tryz.prog (Go.convert 96 9 (.slice (some ⟨g, 0, none⟩) n n)) wr = .ok (.string ⟨(bytesN z n).toArray⟩) wr := by
 have := run_convert_bytes_arg (P := Tryz.prog) wr 96 5 Tryz.underlying96 Tryz.underlying5 g 0 n n ((bytesN z n).map fun b => (b.toNat : Int)) (by simp [bytesN_len]) (fun a ha => by
  have ha' : a < n := by simpa [bytesN_len] using ha
  rw [Nat.zero_add, hrow.cell (i := a) ha']
  unfold sumF
  rw [if_pos (by omega), ← bytesN_get z n a ha']
  simp [List.getElem?_eq_getElem (show a < (bytesN z n).length by rw [bytesN_len]; exact ha')]) 9 Tryz.underlying9
 rw [this, str_of_u8s]
theorem size_bytesN (z n : Nat) : (⟨(bytesN z n).toArray⟩ : ByteArray).size = n := by simp [ByteArray.size, bytesN_len]
theorem trim_bytes {z n : Nat} (h : z < 256 ^ n) (hn : n ≤ 1000000) (W : World) :
  Calls Tryz.prog 75 #[.string ⟨(bytesN z n).toArray⟩] W fun e w' => e = .returned (.string (mg z)) ∧ W = w' := by
 have := rtrim_any ⟨(bytesN z n).toArray⟩ W (by rw [size_bytesN]; exact hn)
 rwa [show bv (⟨(bytesN z n).toArray⟩ : ByteArray).data.toList = z from bv_bytesN h] at this
theorem raddMag_any (s t : ByteArray) (w : World) (hs : s.size ≤ 100000) (ht : t.size ≤ 100000) :
  Calls Tryz.prog 48 #[.string s, .string t] w fun e w' => e = .returned (.string (mg (bv s.data.toList + bv t.data.toList))) ∧ Below w.heap.size w w' := by
 obtain ⟨m, hm⟩ : ∃ m : Nat, max (s.size : Int) t.size = m := ⟨max s.size t.size, by omega⟩
 have hmN : max s.size t.size = m := by omega
 have hmk := mk_bytes ((m : Int) + 1) (m + 1) (by omega) (by omega)
 obtain ⟨x, hx⟩ : ∃ x, bv s.data.toList = x := ⟨_, rfl⟩
 obtain ⟨y, hy⟩ : ∃ y, bv t.data.toList = y := ⟨_, rfl⟩
 rw [hx, hy]
 have BA := Lib.hid (fun k (h : k < s.size) => by have := byte_at s k h; rwa [hx] at this)
 have BB := Lib.hid (fun k (h : k < t.size) => by have := byte_at t k h; rwa [hy] at this)
 have BA0 := Lib.hid (fun k (h : s.size ≤ k) => by have := byte_beyond s k h; rwa [hx] at this)
 have BB0 := Lib.hid (fun k (h : t.size ≤ k) => by have := byte_beyond t k h; rwa [hy] at this)
 have hxl : Hid (x < 256 ^ s.size) := by unfold Hid; rw [← hx]; have := bv_lt s.data.toList; simpa using this
 have hyl : Hid (y < 256 ^ t.size) := by unfold Hid; rw [← hy]; have := bv_lt t.data.toList; simpa using this
 clear hx hy
 go_enter Tryz.func48, Tryz.ntmps48
 go_wp2
 clear hmk hm
 obtain ⟨W, hW⟩ : ∃ W, w.alloc (.cells (madeCells #[.int .u8 0] (m + 1)) 5) = W := ⟨_, rfl⟩
 have hrow : W.rowIs w.heap.size 5 (m + 1) (sumF (x + y) (m + 1) 0) := by
  rw [← hW]
  refine (World.rowIs_made w _ (m + 1) _).congr fun j hj => ?_
  unfold sumF; rw [if_neg (by omega)]; rfl
 have hB : Below w.heap.size w W := by rw [← hW]; exact (Below.refl _ _).alloc (Nat.le_refl _) _
 rw [hW]
 clear hW
 go_loopg [7, 8] (m + 2) (fun gg v7 v8 wr => ∃ k : Nat, v8 = .int .i64 ((k : Int) + 1) ∧ k ≤ m + 1 ∧ m + 2 - k ≤ gg ∧ v7 = .int .i64 (sc x y k : Nat) ∧ wr.rowIs w.heap.size 5 (m + 1) (sumF (x + y) (m + 1) k) ∧ Below w.heap.size w wr)
 case atStart => exact ⟨0, rfl, by omega, by omega, by rw [sc_zero]; rfl, hrow, hB⟩
 case round =>
  clear hrow hB
  obtain ⟨k, rfl, hk, hm, rfl, hrow, hbl⟩ := hrel
  have HR := Lib.hid hrow
  have HBL := Lib.hid hbl
  have hc1 := sc_le x y k
  have HN := Lib.hid (sc_next x y k)
  have HD := Lib.hid (sc_digit x y k)
  obtain ⟨c, hc⟩ : ∃ c, sc x y k = c := ⟨_, rfl⟩
  rw [hc] at HN HD hc1 ⊢
  clear hc
  have key : ∀ V : Int, V = ((c + x / 256 ^ k % 256 + y / 256 ^ k % 256 : Nat) : Int) → k < m + 1 → Value.int .i64 (V / 256) = .int .i64 (sc x y (k + 1) : Nat) ∧
    (wr.setCell ⟨w.heap.size, m - k, none⟩ (.int .u8 (V % 256))).rowIs w.heap.size 5 (m + 1) (sumF (x + y) (m + 1) (k + 1)) ∧ Below w.heap.size w (wr.setCell ⟨w.heap.size, m - k, none⟩ (.int .u8 (V % 256))) := fun V hV hkm => by
   subst hV
   refine ⟨by rw [← HN.out]; congr 1, (HR.out.set (m - k) _).congr (fun j hj => ?_), HBL.out.setCell (p := ⟨w.heap.size, m - k, none⟩) (Nat.le_refl _) _⟩
   unfold sumF
   by_cases e : j = m - k
   ·rw [if_pos e, if_pos (by omega), show m + 1 - 1 - j = k by omega, ← HD.out]; congr 1
   ·rw [if_neg e]
    by_cases e2 : m + 1 - k ≤ j
    ·rw [if_pos e2, if_pos (by omega)]
    ·rw [if_neg e2, if_neg (by omega)]
  have KEY := Lib.hid key
  clear key
  by_cases hkm : k < m + 1
  ·have hkI : (k : Int) + 1 ≤ (m : Int) + 1 := by omega
   have hoc := hrow.cell (i := m - k) (by omega)
   have hof := hrow.frozen (m - k)
   unfold sumF at hoc
   clear hrow hbl
   by_cases h1 : k < s.size
   ·have h1I : (k : Int) + 1 ≤ s.size := by omega
    obtain ⟨a, ha⟩ : ∃ a, s[s.size - (k + 1)]'(by omega) = a := ⟨_, rfl⟩
    have al := a.toNat_lt
    have hA := Lib.hid (show a.toNat = x / 256 ^ k % 256 by rw [← ha, ← BA.out k h1]; simp only [Nat.sub_sub, Nat.add_comm 1 k])
    by_cases h2 : k < t.size
    ·have h2I : (k : Int) + 1 ≤ t.size := by omega
     obtain ⟨b, hb⟩ : ∃ b, t[t.size - (k + 1)]'(by omega) = b := ⟨_, rfl⟩
     have bl' := b.toNat_lt
     have hBb := Lib.hid (show b.toNat = y / 256 ^ k % 256 by rw [← hb, ← BB.out k h2]; simp only [Nat.sub_sub, Nat.add_comm 1 k])
     go_wp2
     obtain ⟨e1, e2, e3⟩ := KEY.out ((c : Int) + a.toNat + b.toNat) (by rw [← hA.out, ← hBb.out]; simp) hkm
     go_roundg (m + 1 - k)
     case rel => exact ⟨k + 1, by go_num, by omega, by omega, e1, e2, e3⟩
     case measure => omega
    ·have h2I : decide ((k : Int) + 1 ≤ t.size) = false := decide_eq_false (by omega)
     have hBb := Lib.hid (BB0.out k (by omega))
     go_wp2
     obtain ⟨e1, e2, e3⟩ := KEY.out ((c : Int) + a.toNat) (by rw [← hA.out, hBb.out]; simp) hkm
     go_roundg (m + 1 - k)
     case rel => exact ⟨k + 1, by go_num, by omega, by omega, e1, e2, e3⟩
     case measure => omega
   ·have h1I : decide ((k : Int) + 1 ≤ s.size) = false := decide_eq_false (by omega)
    have hA := Lib.hid (BA0.out k (by omega))
    by_cases h2 : k < t.size
    ·have h2I : (k : Int) + 1 ≤ t.size := by omega
     obtain ⟨b, hb⟩ : ∃ b, t[t.size - (k + 1)]'(by omega) = b := ⟨_, rfl⟩
     have bl' := b.toNat_lt
     have hBb := Lib.hid (show b.toNat = y / 256 ^ k % 256 by rw [← hb, ← BB.out k h2]; simp only [Nat.sub_sub, Nat.add_comm 1 k])
     go_wp2
     obtain ⟨e1, e2, e3⟩ := KEY.out ((c : Int) + b.toNat) (by rw [hA.out, ← hBb.out]; simp) hkm
     go_roundg (m + 1 - k)
     case rel => exact ⟨k + 1, by go_num, by omega, by omega, e1, e2, e3⟩
     case measure => omega
    ·have h2I : decide ((k : Int) + 1 ≤ t.size) = false := decide_eq_false (by omega)
     have hBb := Lib.hid (BB0.out k (by omega))
     go_wp2
     obtain ⟨e1, e2, e3⟩ := KEY.out (c : Int) (by rw [hA.out, hBb.out]; simp) hkm
     rw [show ((c : Int) % 256) = c by omega] at e2 e3
     go_roundg (m + 1 - k)
     case rel => exact ⟨k + 1, by go_num, by omega, by omega, e1, e2, e3⟩
     case measure => omega
  ·have hkB : decide ((k : Int) + 1 ≤ (m : Int) + 1) = false := decide_eq_false (by omega)
   have hkB2 : decide ((k : Int) ≤ m) = false := decide_eq_false (by omega)
   obtain rfl : k = m + 1 := by omega
   have hz : x + y < 256 ^ (m + 1) := by
    have h1 : 256 ^ s.size ≤ 256 ^ m := Nat.pow_le_pow_right (by decide) (by omega)
    have h2 : 256 ^ t.size ≤ 256 ^ m := Nat.pow_le_pow_right (by decide) (by omega)
    have h3 := hxl.out
    have h4 := hyl.out
    rw [Nat.pow_succ]; omega
   have hcv := conv_bytes hrow
   have HT := Lib.hid (trim_bytes hz (by omega))
   clear hz hrow hbl hkm
   go_wp2_with (go_at_call 75; refine (HT.out _).mono ?_; rintro e w1 ⟨rfl, rfl⟩)
   go_ret
   exact ⟨rfl, HBL.out⟩
def D8 (x k : Nat) : Nat := x / 256 ^ k % 256
theorem D8_lt (x k : Nat) : D8 x k < 256 := Nat.mod_lt _ (by decide)
theorem p256_pos (k : Nat) : 0 < 256 ^ k := Nat.pow_pos (by decide)
theorem mod_succD8 (x k : Nat) : x % 256 ^ (k + 1) = x % 256 ^ k + 256 ^ k * D8 x k := mod_succ256 x k
def sw (x y k : Nat) : Nat := if x % 256 ^ k < y % 256 ^ k then 1 else 0
theorem sw_zero (x y : Nat) : sw x y 0 = 0 := by simp [sw, Nat.mod_one]
theorem sw_le (x y k : Nat) : sw x y k ≤ 1 := by unfold sw; split <;> omega
theorem sw_iff (x y k : Nat) : x % 256 ^ (k + 1) < y % 256 ^ (k + 1) ↔ D8 x k < sw x y k + D8 y k := by
 have h1 := Nat.mod_lt x (p256_pos k)
 have h2 := Nat.mod_lt y (p256_pos k)
 rw [mod_succD8, mod_succD8]
 unfold sw
 generalize x % 256 ^ k = a at *
 generalize y % 256 ^ k = b at *
 generalize D8 x k = dx
 generalize D8 y k = dy
 generalize 256 ^ k = P at *
 constructor
 ·intro h
  by_cases hab : a < b
  ·rw [if_pos hab]
   apply Classical.byContradiction
   intro hn
   have : P * (dy + 1) ≤ P * dx := Nat.mul_le_mul_left _ (by omega)
   rw [Nat.mul_add] at this
   omega
  ·rw [if_neg hab]
   apply Classical.byContradiction
   intro hn
   have : P * dy ≤ P * dx := Nat.mul_le_mul_left _ (by omega)
   omega
 ·intro h
  by_cases hab : a < b
  ·rw [if_pos hab] at h
   have : P * dx ≤ P * dy := Nat.mul_le_mul_left _ (by omega)
   omega
  ·rw [if_neg hab] at h
   have : P * (dx + 1) ≤ P * dy := Nat.mul_le_mul_left _ (by omega)
   rw [Nat.mul_add] at this
   omega
theorem sw_div {x y : Nat} (h : y ≤ x) (k : Nat) : (((x - y) / 256 ^ k : Nat) : Int) = ((x / 256 ^ k : Nat) : Int) - (y / 256 ^ k : Nat) - sw x y k := by
 have h1 := Nat.mod_lt x (p256_pos k)
 have h2 := Nat.mod_lt y (p256_pos k)
 have e1 := Nat.div_add_mod x (256 ^ k)
 have e2 := Nat.div_add_mod y (256 ^ k)
 have hd : y / 256 ^ k ≤ x / 256 ^ k := Nat.div_le_div_right h
 unfold sw
 generalize x % 256 ^ k = a at *
 generalize y % 256 ^ k = b at *
 have hp := p256_pos k
 generalize x / 256 ^ k = qx at *
 generalize y / 256 ^ k = qy at *
 generalize 256 ^ k = P at *
 obtain ⟨u, rfl⟩ : ∃ u, qx = qy + u := ⟨qx - qy, by omega⟩
 rw [Nat.mul_add] at e1
 by_cases hab : a < b
 ·have hu : u ≠ 0 := by rintro rfl; omega
  obtain ⟨v, rfl⟩ : ∃ v, u = v + 1 := ⟨u - 1, by omega⟩
  have : (x - y) / P = v := by
   apply Nat.div_eq_of_lt_le
   ·rw [Nat.mul_comm]; rw [Nat.mul_add] at e1; omega
   ·rw [Nat.mul_comm, Nat.mul_add]; rw [Nat.mul_add] at e1; omega
  rw [this, if_pos hab]; omega
 ·have : (x - y) / P = u := by
   apply Nat.div_eq_of_lt_le
   ·rw [Nat.mul_comm]; omega
   ·rw [Nat.mul_comm, Nat.mul_add]; omega
  rw [this, if_neg hab]; omega
theorem sw_digit {x y : Nat} (h : y ≤ x) (k : Nat) : ((D8 (x - y) k : Nat) : Int) = ((D8 x k : Int) - sw x y k - D8 y k) % 256 := by
 have e := sw_div h k
 unfold D8
 show (((x - y) / 256 ^ k % 256 : Nat) : Int) = (((x / 256 ^ k % 256 : Nat) : Int) - sw x y k - ((y / 256 ^ k % 256 : Nat) : Int)) % 256
 omega
theorem sw_neg {x y k : Nat} {e : Int} (h : y ≤ x) (he : e = (D8 y k : Nat)) (hneg : (D8 x k : Int) - sw x y k - e < 0) :
  sw x y (k + 1) = 1 ∧ (D8 x k : Int) - sw x y k - e + 256 = (D8 (x - y) k : Nat) := by
 subst he
 have h1 := D8_lt x k
 have h2 := D8_lt y k
 have h3 := sw_le x y k
 refine ⟨?_, by rw [sw_digit h]; omega⟩
 have := (sw_iff x y k).2 (by omega)
 unfold sw; rw [if_pos this]
theorem sw_nn {x y k : Nat} {e : Int} (h : y ≤ x) (he : e = (D8 y k : Nat)) (hneg : ¬ (D8 x k : Int) - sw x y k - e < 0) :
  sw x y (k + 1) = 0 ∧ (D8 x k : Int) - sw x y k - e = (D8 (x - y) k : Nat) := by
 subst he
 have h1 := D8_lt x k
 have h2 := D8_lt y k
 have h3 := sw_le x y k
 refine ⟨?_, by rw [sw_digit h]; omega⟩
 have := mt (sw_iff x y k).1 (by omega)
 unfold sw; rw [if_neg this]
theorem rsubMag_any (s t : ByteArray) (w : World) (hs : s.size ≤ 100000) (hts : t.size ≤ s.size) (hle : bv t.data.toList ≤ bv s.data.toList) :
  Calls Tryz.prog 50 #[.string s, .string t] w fun e w' => e = .returned (.string (mg (bv s.data.toList - bv t.data.toList))) ∧ Below w.heap.size w w' := by
 have hmk := mk_bytes (s.size : Int) s.size rfl (by omega)
 obtain ⟨x, hx⟩ : ∃ x, bv s.data.toList = x := ⟨_, rfl⟩
 obtain ⟨y, hy⟩ : ∃ y, bv t.data.toList = y := ⟨_, rfl⟩
 rw [hx, hy] at hle ⊢
 have HLE := Lib.hid hle
 have BA := Lib.hid (fun k (h : k < s.size) => by have := byte_at s k h; rwa [hx] at this)
 have BB := Lib.hid (fun k (h : k < t.size) => by have := byte_at t k h; rwa [hy] at this)
 have BB0 := Lib.hid (fun k (h : t.size ≤ k) => by have := byte_beyond t k h; rwa [hy] at this)
 have hxl : Hid (x < 256 ^ s.size) := by unfold Hid; rw [← hx]; have := bv_lt s.data.toList; simpa using this
 clear hx hy hle
 go_enter Tryz.func50, Tryz.ntmps50
 go_wp2
 clear hmk
 obtain ⟨W, hW⟩ : ∃ W, w.alloc (.cells (madeCells #[.int .u8 0] s.size) 5) = W := ⟨_, rfl⟩
 have hrow : W.rowIs w.heap.size 5 s.size (sumF (x - y) s.size 0) := by
  rw [← hW]
  refine (World.rowIs_made w _ s.size _).congr fun j hj => ?_
  unfold sumF; rw [if_neg (by omega)]; rfl
 have hB : Below w.heap.size w W := by rw [← hW]; exact (Below.refl _ _).alloc (Nat.le_refl _) _
 rw [hW]
 clear hW
 go_loopg [6, 7, 8] (s.size + 1) (fun gg v6 v7 v8 wr => ∃ k : Nat, v7 = .int .i64 ((k : Int) + 1) ∧ k ≤ s.size ∧ s.size + 1 - k ≤ gg ∧ v6 = .int .i64 (sw x y k : Nat) ∧ wr.rowIs w.heap.size 5 s.size (sumF (x - y) s.size k) ∧ Below w.heap.size w wr)
 case atStart => exact ⟨0, rfl, by omega, by omega, by rw [sw_zero]; rfl, hrow, hB⟩
 case round =>
  clear hrow hB
  obtain ⟨k, rfl, hk, hm, rfl, hrow, hbl⟩ := hrel
  have HR := Lib.hid hrow
  have HBL := Lib.hid hbl
  have hc1 := sw_le x y k
  have key : ∀ (V : Int) (b : Nat), V = (D8 (x - y) k : Nat) → b = sw x y (k + 1) → k < s.size → Value.int .i64 (b : Int) = .int .i64 (sw x y (k + 1) : Nat) ∧
    (wr.setCell ⟨w.heap.size, s.size - (k + 1), none⟩ (.int .u8 V)).rowIs w.heap.size 5 s.size (sumF (x - y) s.size (k + 1)) ∧ Below w.heap.size w (wr.setCell ⟨w.heap.size, s.size - (k + 1), none⟩ (.int .u8 V)) := fun V b hV hbb hkm => by
   subst hV; subst hbb
   refine ⟨rfl, (HR.out.set (s.size - (k + 1)) _).congr (fun j hj => ?_), HBL.out.setCell (p := ⟨w.heap.size, s.size - (k + 1), none⟩) (Nat.le_refl _) _⟩
   unfold sumF
   by_cases e : j = s.size - (k + 1)
   ·rw [if_pos e, if_pos (by omega), show s.size - 1 - j = k by omega]; rfl
   ·rw [if_neg e]
    by_cases e2 : s.size - k ≤ j
    ·rw [if_pos e2, if_pos (by omega)]
    ·rw [if_neg e2, if_neg (by omega)]
  have KEY := Lib.hid key
  clear key
  have hNEG := Lib.hid (fun (e : Int) (he : e = (D8 y k : Nat)) (h : (D8 x k : Int) - sw x y k - e < 0) => sw_neg HLE.out he h)
  have hNN := Lib.hid (fun (e : Int) (he : e = (D8 y k : Nat)) (h : ¬ (D8 x k : Int) - sw x y k - e < 0) => sw_nn HLE.out he h)
  have hdx := D8_lt x k
  obtain ⟨c, hc⟩ : ∃ c, sw x y k = c := ⟨_, rfl⟩
  rw [hc] at hNEG hNN hc1 ⊢
  clear hc
  by_cases hkm : k < s.size
  ·have hkI : (k : Int) + 1 ≤ s.size := by omega
   have hoc := hrow.cell (i := s.size - (k + 1)) (by omega)
   have hof := hrow.frozen (s.size - (k + 1))
   unfold sumF at hoc
   clear hrow hbl
   obtain ⟨a, ha⟩ : ∃ a, s[s.size - (k + 1)]'(by omega) = a := ⟨_, rfl⟩
   have al := a.toNat_lt
   have hA : a.toNat = D8 x k := by rw [← ha]; have := BA.out k hkm; rw [show D8 x k = x / 256 ^ k % 256 from rfl, ← this]; simp only [Nat.sub_sub, Nat.add_comm 1 k]
   rw [← hA] at hNEG hNN
   clear hA hdx
   by_cases h2 : k < t.size
   ·have h2I : (k : Int) + 1 ≤ t.size := by omega
    obtain ⟨b, hb⟩ : ∃ b, t[t.size - (k + 1)]'(by omega) = b := ⟨_, rfl⟩
    have bl' := b.toNat_lt
    have hBb : b.toNat = D8 y k := by rw [← hb]; have := BB.out k h2; rw [show D8 y k = y / 256 ^ k % 256 from rfl, ← this]; simp only [Nat.sub_sub, Nat.add_comm 1 k]
    by_cases hneg : (a.toNat : Int) - c - b.toNat < 0
    ·obtain ⟨f1, f2⟩ := hNEG.out b.toNat (by rw [hBb]) hneg
     obtain ⟨e1, e2, e3⟩ := KEY.out ((a.toNat : Int) - c - b.toNat + 256) 1 f2 f1.symm hkm
     have E1 := Lib.hid e1
     have E2 := Lib.hid e2
     have E3 := Lib.hid e3
     clear f1 f2 e1 e2 e3 hBb
     go_wp2
     go_roundg (s.size - k)
     case rel => exact ⟨k + 1, by go_num, by omega, by omega, E1.out, E2.out, E3.out⟩
     case measure => omega
    ·obtain ⟨f1, f2⟩ := hNN.out b.toNat (by rw [hBb]) hneg
     obtain ⟨e1, e2, e3⟩ := KEY.out ((a.toNat : Int) - c - b.toNat) 0 f2 f1.symm hkm
     have E1 := Lib.hid e1
     have E2 := Lib.hid e2
     have E3 := Lib.hid e3
     have hneg2 : decide ((a.toNat : Int) - c - b.toNat < 0) = false := decide_eq_false hneg
     clear f1 f2 e1 e2 e3 hBb
     go_wp2
     go_roundg (s.size - k)
     case rel => exact ⟨k + 1, by go_num, by omega, by omega, E1.out, E2.out, E3.out⟩
     case measure => omega
   ·have h2I : decide ((k : Int) + 1 ≤ t.size) = false := decide_eq_false (by omega)
    have hB0 : (0 : Int) = (D8 y k : Nat) := by have := BB0.out k (by omega); unfold D8; omega
    by_cases hneg : (a.toNat : Int) - c < 0
    ·obtain ⟨f1, f2⟩ := hNEG.out 0 hB0 (by omega)
     obtain ⟨e1, e2, e3⟩ := KEY.out ((a.toNat : Int) - c + 256) 1 (by rw [← f2]; omega) f1.symm hkm
     have E1 := Lib.hid e1
     have E2 := Lib.hid e2
     have E3 := Lib.hid e3
     clear f1 f2 e1 e2 e3 hB0
     go_wp2
     go_roundg (s.size - k)
     case rel => exact ⟨k + 1, by go_num, by omega, by omega, E1.out, E2.out, E3.out⟩
     case measure => omega
    ·obtain ⟨f1, f2⟩ := hNN.out 0 hB0 (by omega)
     obtain ⟨e1, e2, e3⟩ := KEY.out ((a.toNat : Int) - c) 0 (by rw [← f2]; omega) f1.symm hkm
     have E1 := Lib.hid e1
     have E2 := Lib.hid e2
     have E3 := Lib.hid e3
     have hneg2 : decide ((a.toNat : Int) - c < 0) = false := decide_eq_false hneg
     clear f1 f2 e1 e2 e3 hB0
     go_wp2
     go_roundg (s.size - k)
     case rel => exact ⟨k + 1, by go_num, by omega, by omega, E1.out, E2.out, E3.out⟩
     case measure => omega
  ·have hkB : decide ((k : Int) + 1 ≤ s.size) = false := decide_eq_false (by omega)
   have hke : k = s.size := by omega
   have hz : x - y < 256 ^ s.size := Nat.lt_of_le_of_lt (Nat.sub_le _ _) hxl.out
   rw [hke] at hrow
   have hcv := conv_bytes hrow
   have HT := Lib.hid (trim_bytes hz (by omega))
   clear hz hrow hbl hkm hke
   go_wp2_with (go_at_call 75; refine (HT.out _).mono ?_; rintro e w1 ⟨rfl, rfl⟩)
   go_ret
   exact ⟨rfl, HBL.out⟩
def mq (x y i k : Nat) : Nat := ((x % 256 ^ i * y) % 256 ^ (i + k) + D8 x i * (y % 256 ^ k) * 256 ^ i) / 256 ^ (i + k)
theorem mq_zero (x y i : Nat) : mq x y i 0 = 0 := by
 unfold mq
 rw [Nat.pow_zero, Nat.mod_one, Nat.add_zero, Nat.mul_zero, Nat.zero_mul, Nat.add_zero]
 exact Nat.div_eq_of_lt (Nat.mod_lt _ (p256_pos _))
theorem mq_lt (x y i k : Nat) : mq x y i k < 256 := by
 unfold mq
 rw [Nat.div_lt_iff_lt_mul (p256_pos _)]
 have h1 := Nat.mod_lt (x % 256 ^ i * y) (p256_pos (i + k))
 have h2 : y % 256 ^ k * 256 ^ i ≤ 256 ^ (i + k) := by
  rw [Nat.pow_add, Nat.mul_comm (256 ^ i)]
  exact Nat.mul_le_mul_right _ (Nat.le_of_lt (Nat.mod_lt _ (p256_pos k)))
 have h3 : D8 x i * (y % 256 ^ k) * 256 ^ i ≤ D8 x i * 256 ^ (i + k) := by
  rw [Nat.mul_assoc]; exact Nat.mul_le_mul_left _ h2
 have h4 : (D8 x i + 1) * 256 ^ (i + k) ≤ 256 * 256 ^ (i + k) := Nat.mul_le_mul_right _ (D8_lt x i)
 rw [Nat.add_mul] at h4
 omega
theorem mq_sum (x y i k : Nat) : D8 x i * D8 y k + D8 (x % 256 ^ i * y) (i + k) + mq x y i k =
  ((x % 256 ^ i * y) % 256 ^ (i + (k + 1)) + D8 x i * (y % 256 ^ (k + 1)) * 256 ^ i) / 256 ^ (i + k) := by
 have e : (x % 256 ^ i * y) % 256 ^ (i + (k + 1)) + D8 x i * (y % 256 ^ (k + 1)) * 256 ^ i =
   ((x % 256 ^ i * y) % 256 ^ (i + k) + D8 x i * (y % 256 ^ k) * 256 ^ i) + 256 ^ (i + k) * (D8 (x % 256 ^ i * y) (i + k) + D8 x i * D8 y k) := by
  rw [← Nat.add_assoc, mod_succD8 (x % 256 ^ i * y) (i + k), mod_succD8 y k, Nat.mul_add, Nat.add_mul, Nat.mul_add,
   show D8 x i * (256 ^ k * D8 y k) * 256 ^ i = 256 ^ (i + k) * (D8 x i * D8 y k) by
    rw [Nat.pow_add]; simp only [Nat.mul_assoc, Nat.mul_left_comm, Nat.mul_comm]]
  omega
 rw [e, Nat.add_mul_div_left _ _ (p256_pos _)]
 unfold mq; omega
theorem mq_next (x y i k : Nat) : (D8 x i * D8 y k + D8 (x % 256 ^ i * y) (i + k) + mq x y i k) / 256 = mq x y i (k + 1) := by
 rw [mq_sum, Nat.div_div_eq_div_mul, ← Nat.pow_succ]; rfl
theorem row_eq8 (x y i : Nat) : x % 256 ^ (i + 1) * y = x % 256 ^ i * y + D8 x i * y * 256 ^ i := by
 rw [mod_succD8, Nat.add_mul]
 congr 1
 simp only [Nat.mul_assoc, Nat.mul_left_comm, Nat.mul_comm]
theorem mq_digit (x y i k : Nat) : (D8 x i * D8 y k + D8 (x % 256 ^ i * y) (i + k) + mq x y i k) % 256 = D8 (x % 256 ^ (i + 1) * y) (i + k) := by
 rw [mq_sum]
 have e : ∀ z, z / 256 ^ (i + k) % 256 = z % 256 ^ (i + k + 1) / 256 ^ (i + k) := fun z => by rw [Nat.pow_succ, Nat.mod_mul_right_div_self]
 unfold D8
 rw [e, e]
 congr 1
 rw [show i + (k + 1) = i + k + 1 from rfl]
 rw [show (x / 256 ^ i % 256) = D8 x i from rfl, row_eq8]
 have h : D8 x i * y * 256 ^ i = D8 x i * (y % 256 ^ (k + 1)) * 256 ^ i + 256 ^ (i + k + 1) * (D8 x i * (y / 256 ^ (k + 1))) := by
  conv => lhs; rw [← Nat.mod_add_div y (256 ^ (k + 1))]
  rw [Nat.mul_add, Nat.add_mul]
  congr 1
  rw [show i + k + 1 = i + (k + 1) from rfl, Nat.pow_add 256 i (k + 1)]
  generalize y / 256 ^ (k + 1) = q
  generalize 256 ^ (k + 1) = Q
  simp only [Nat.mul_assoc, Nat.mul_left_comm, Nat.mul_comm]
 rw [h, ← Nat.add_assoc, Nat.add_mul_mod_self_left, Nat.add_mod, Nat.mod_mod, ← Nat.add_mod]
theorem mul_lt_pow8 {a b m n : Nat} (ha : a < 256 ^ m) (hb : b < 256 ^ n) : a * b < 256 ^ (m + n) := by
 rw [Nat.pow_add]
 exact Nat.mul_lt_mul_of_lt_of_le ha (Nat.le_of_lt hb) (p256_pos n)
theorem mq_last {x y i m : Nat} (hy : y < 256 ^ m) : mq x y i m = D8 (x % 256 ^ (i + 1) * y) (i + m) := by
 have h1 : x % 256 ^ i * y < 256 ^ (i + m) := mul_lt_pow8 (Nat.mod_lt _ (p256_pos i)) hy
 have h2 : x % 256 ^ (i + 1) * y < 256 ^ (i + 1 + m) := mul_lt_pow8 (Nat.mod_lt _ (p256_pos _)) hy
 unfold mq
 rw [Nat.mod_eq_of_lt h1, Nat.mod_eq_of_lt hy, ← row_eq8]
 have h3 : x % 256 ^ (i + 1) * y / 256 ^ (i + m) < 256 := by
  rw [Nat.div_lt_iff_lt_mul (p256_pos _), Nat.mul_comm 256, ← Nat.pow_succ, show (i + m).succ = i + 1 + m by omega]; exact h2
 unfold D8
 rw [Nat.mod_eq_of_lt h3]
theorem mq_nextI (x y i k : Nat) : ((D8 x i : Int) * D8 y k + D8 (x % 256 ^ i * y) (i + k) + mq x y i k) / 256 = (mq x y i (k + 1) : Nat) := by
 rw [← mq_next, ← Int.natCast_mul]
 generalize D8 x i * D8 y k = p
 show _ = (((_ + _ + _) / 256 : Nat) : Int); omega
theorem mq_digitI (x y i k : Nat) : ((D8 x i : Int) * D8 y k + D8 (x % 256 ^ i * y) (i + k) + mq x y i k) % 256 = (D8 (x % 256 ^ (i + 1) * y) (i + k) : Nat) := by
 rw [← mq_digit, ← Int.natCast_mul]
 generalize D8 x i * D8 y k = p
 show _ = (((_ + _ + _) % 256 : Nat) : Int); omega
theorem prod_le8 {a b : Nat} (ha : a < 256) (hb : b < 256) : (a : Int) * b ≤ 65025 ∧ 0 ≤ (a : Int) * b := by
 have h : a * b ≤ 255 * 255 := Nat.mul_le_mul (by omega) (by omega)
 rw [← Int.natCast_mul]
 generalize a * b = p at *
 omega
theorem row_low8 (x y : Nat) {i j : Nat} (h : j < i) : D8 (x % 256 ^ (i + 1) * y) j = D8 (x % 256 ^ i * y) j := by
 rw [row_eq8]
 obtain ⟨m, rfl⟩ : ∃ m, i = j + 1 + m := ⟨i - (j + 1), by omega⟩
 unfold D8
 rw [show x / 256 ^ (j + 1 + m) % 256 * y * 256 ^ (j + 1 + m) = x / 256 ^ (j + 1 + m) % 256 * y * 256 ^ m * 256 * 256 ^ j by
  rw [show j + 1 + m = (m + 1) + j by omega, Nat.pow_add 256 (m + 1) j, Nat.pow_succ 256 m]
  generalize x / (256 ^ m * 256 * 256 ^ j) % 256 * y = q
  simp only [Nat.mul_assoc]]
 rw [Nat.add_mul_div_right _ _ (p256_pos _), Nat.add_mul_mod_self_right]
theorem i64_and255 (n : Int) : bits .and .i64 n 255 = n % 256 := by
 have h1 : (BitVec.ofInt 64 255).toNat = 2 ^ 8 - 1 := by decide
 have key : (BitVec.ofInt 64 n &&& BitVec.ofInt 64 255).toNat = (n % ((2 ^ 64 : Nat) : Int)).toNat % 2 ^ 8 := by
  rw [BitVec.toNat_and, BitVec.toNat_ofInt, h1, Nat.and_two_pow_sub_one_eq_mod]
 show IntKind.i64.wrap ((BitVec.ofInt 64 n &&& BitVec.ofInt 64 255).toNat : Nat) = n % 256
 rw [key, IntKind.wrap_i64]
 omega
theorem infoIntZ : (Tryz.prog.info? 3).map (fun i => (i.zero, i.size, i.bytes)) = some (some (.int .i64 0), 1, 8) := by kernel_rfl
theorem mk_intsI (N : Int) (n : Nat) (e : N = n) (h : n ≤ 1000000000) (w : World) :
  (Instr.makeSlice 23 (.int .i64 N) (.int .i64 N)).run Tryz.prog w = .ok (.slice (some ⟨w.heap.size, 0, none⟩) n n) (w.alloc (.cells (madeCells #[.int .i64 0] n) 3)) := by
 subst e
 exact run_make_row' (P := Tryz.prog) 23 3 (.int .i64 0) 8 Tryz.underlying23 infoIntZ rfl .i64 .i64 n (by omega) (by omega) w
def mulF (x y N q r j : Nat) : Value := .int .i64 ((if N - 1 - j < q + r then D8 (x % 256 ^ (q + 1) * y) (N - 1 - j) else D8 (x % 256 ^ q * y) (N - 1 - j) : Nat) : Int)
def catF (z N k j : Nat) : Value := .int .u8 ((if j < k then D8 z (N - 1 - j) else 0 : Nat) : Int)
theorem D8_zero (k : Nat) : D8 0 k = 0 := by simp [D8]
theorem mulF_zero (x y N j : Nat) : mulF x y N 0 0 j = .int .i64 0 := by
 unfold mulF; rw [if_neg (by omega), Nat.pow_zero, Nat.mod_one, Nat.zero_mul, D8_zero]; rfl
theorem rmulMag_rows (s t : ByteArray) (w : World) (hs : s.size ≤ 100000) (ht : t.size ≤ 100000) :
  Calls Tryz.prog 98 #[.string s, .string t] w fun e w' => e = .returned (.string (mg (bv s.data.toList * bv t.data.toList))) ∧ Below w.heap.size w w' := by
 have hmk := mk_intsI ((s.size : Int) + t.size) (s.size + t.size) (by omega) (by omega)
 have hmk2 := mk_bytes ((s.size : Int) + t.size) (s.size + t.size) (by omega) (by omega)
 have HMK2 := Lib.hid hmk2
 clear hmk2
 obtain ⟨x, hx⟩ : ∃ x, bv s.data.toList = x := ⟨_, rfl⟩
 obtain ⟨y, hy⟩ : ∃ y, bv t.data.toList = y := ⟨_, rfl⟩
 rw [hx, hy]
 have BA := Lib.hid (fun k (h : k < s.size) => by have := byte_at s k h; rwa [hx] at this)
 have BB := Lib.hid (fun k (h : k < t.size) => by have := byte_at t k h; rwa [hy] at this)
 have hxl : Hid (x < 256 ^ s.size) := by unfold Hid; rw [← hx]; have := bv_lt s.data.toList; simpa using this
 have hyl : Hid (y < 256 ^ t.size) := by unfold Hid; rw [← hy]; have := bv_lt t.data.toList; simpa using this
 clear hx hy
 go_enter Tryz.func98, Tryz.ntmps98
 go_wp2
 clear hmk
 obtain ⟨W, hW⟩ : ∃ W, w.alloc (.cells (madeCells #[.int .i64 0] (s.size + t.size)) 3) = W := ⟨_, rfl⟩
 have hrow : W.rowIs w.heap.size 3 (s.size + t.size) (mulF x y (s.size + t.size) 0 0) := by
  rw [← hW]
  refine (World.rowIs_made w _ (s.size + t.size) _).congr fun j hj => ?_
  rw [mulF_zero]
 have hB : Below w.heap.size w W := by rw [← hW]; exact (Below.refl _ _).alloc (Nat.le_refl _) _
 rw [hW]
 clear hW
 go_loopg [6, 7, 8] (s.size + 1) (fun gg v6 v7 v8 wr => ∃ q : Nat, v6 = .int .i64 ((s.size : Int) - 1 - q) ∧ q ≤ s.size ∧ s.size + 1 - q ≤ gg ∧ wr.rowIs w.heap.size 3 (s.size + t.size) (mulF x y (s.size + t.size) q 0) ∧ Below w.heap.size w wr)
 case atStart => exact ⟨0, by simp, by omega, by omega, hrow, hB⟩
 case round =>
  clear hrow hB
  obtain ⟨q, rfl, hq, hm, hrow, hbl⟩ := hrel
  have HR := Lib.hid hrow
  have HBL := Lib.hid hbl
  clear hrow hbl
  by_cases hqs : q < s.size
  ·have hqI : (0 : Int) ≤ (s.size : Int) - 1 - q := by omega
   go_wp2
   go_loopg [7, 8] (t.size + 1) (fun gg v7 v8 wi => ∃ r : Nat, v8 = .int .i64 ((t.size : Int) - 1 - r) ∧ r ≤ t.size ∧ t.size + 1 - r ≤ gg ∧ v7 = .int .i64 (mq x y q r : Nat) ∧ wi.rowIs w.heap.size 3 (s.size + t.size) (mulF x y (s.size + t.size) q r) ∧ Below w.heap.size w wi)
   case atStart => exact ⟨0, by simp, by omega, by omega, by rw [mq_zero]; rfl, HR.out, HBL.out⟩
   case round =>
    obtain ⟨r, rfl, hr, hmr, rfl, hrowi, hbi⟩ := hrel
    have HRI := Lib.hid hrowi
    have HBI := Lib.hid hbi
    have hcl := mq_lt x y q r
    have HNX := Lib.hid (mq_nextI x y q r)
    have HDG := Lib.hid (mq_digitI x y q r)
    have hol := D8_lt (x % 256 ^ q * y) (q + r)
    obtain ⟨c, hc⟩ : ∃ c, mq x y q r = c := ⟨_, rfl⟩
    have HCQ := Lib.hid hc
    rw [hc] at hcl HNX HDG ⊢
    clear hc
    by_cases hrt : r < t.size
    ·have hrI : (0 : Int) ≤ (t.size : Int) - 1 - r := by omega
     have hoc := hrowi.cell (i := s.size + t.size - 1 - (q + r)) (by omega)
     have hof := hrowi.frozen (s.size + t.size - 1 - (q + r))
     unfold mulF at hoc
     rw [show s.size + t.size - 1 - (s.size + t.size - 1 - (q + r)) = q + r by omega, if_neg (by omega)] at hoc
     obtain ⟨o, ho⟩ : ∃ o, D8 (x % 256 ^ q * y) (q + r) = o := ⟨_, rfl⟩
     rw [ho] at hoc hol HNX HDG
     obtain ⟨a, ha⟩ : ∃ a, s[s.size - 1 - q]'(by omega) = a := ⟨_, rfl⟩
     obtain ⟨b, hb⟩ : ∃ b, t[t.size - 1 - r]'(by omega) = b := ⟨_, rfl⟩
     have hA : a.toNat = D8 x q := by rw [← ha]; exact BA.out q hqs
     have hBb : b.toNat = D8 y r := by rw [← hb]; exact BB.out r hrt
     rw [← hA, ← hBb] at HNX HDG
     have al := a.toNat_lt
     have bl' := b.toNat_lt
     have hab : (a.toNat : Int) * b.toNat ≤ 65025 ∧ 0 ≤ (a.toNat : Int) * b.toNat := prod_le8 al bl'
     have hi1 : ((s.size : Int) - 1 - q) + ((t.size : Int) - 1 - r) + 1 < ((s.size + t.size : Nat) : Int) := by omega
     have hi2 : (((s.size : Int) - 1 - q) + ((t.size : Int) - 1 - r) + 1).toNat = s.size + t.size - 1 - (q + r) := by omega
     have hi3 : ((s.size : Int) - 1 - q).toNat = s.size - 1 - q := by omega
     have hi4 : ((t.size : Int) - 1 - r).toNat = t.size - 1 - r := by omega
     have hi5 : (s.size : Int) - 1 - q < s.size := by omega
     have hi6 : (t.size : Int) - 1 - r < t.size := by omega
     have hand := i64_and255
     clear hrowi hbi ho hA hBb
     go_wp2_with fail
     go_quiet (fail)
     go_wp2
     have e1 : ((c : Int) + (o + a.toNat * b.toNat)) = a.toNat * b.toNat + o + c := by rw [Int.add_comm, Int.add_comm (o : Int)]
     go_roundg (t.size - r)
     case rel =>
      refine ⟨r + 1, by congr 1; omega, by omega, by omega, by rw [e1, HNX.out], ((HRI.out.of_block (w' := wr.drewN nq) rfl).set (s.size + t.size - 1 - (q + r)) _).congr (fun j hj => ?_), (HBI.out.trans (show Below w.heap.size wr (wr.drewN nq) from ⟨rfl, rfl, rfl, Nat.le_refl _, fun _ _ => rfl⟩)).setCell (p := ⟨w.heap.size, s.size + t.size - 1 - (q + r), none⟩) (Nat.le_refl _) _⟩
      unfold mulF
      by_cases e : j = s.size + t.size - 1 - (q + r)
      ·rw [if_pos e, if_pos (by omega), e1, HDG.out, show s.size + t.size - 1 - j = q + r by omega]
      ·rw [if_neg e]
       by_cases e2 : s.size + t.size - 1 - j < q + r
       ·rw [if_pos e2, if_pos (by omega)]
       ·rw [if_neg e2, if_neg (by omega)]
     case measure => omega
    ·have hrB : decide ((0 : Int) ≤ (t.size : Int) - 1 - r) = false := decide_eq_false (by omega)
     have hrt' : r = t.size := by omega
     have hz0 : D8 (x % 256 ^ q * y) (q + t.size) = 0 := by
      have h1 : x % 256 ^ q * y < 256 ^ (q + t.size) := mul_lt_pow8 (Nat.mod_lt _ (p256_pos q)) hyl.out
      unfold D8; rw [Nat.div_eq_of_lt h1]
     have hoc := hrowi.cell (i := s.size - 1 - q) (by omega)
     have hof := hrowi.frozen (s.size - 1 - q)
     unfold mulF at hoc
     rw [hrt', show s.size + t.size - 1 - (s.size - 1 - q) = q + t.size by omega, if_neg (by omega), hz0] at hoc
     have HC := Lib.hid (show c = D8 (x % 256 ^ (q + 1) * y) (q + t.size) by rw [← HCQ.out, hrt']; exact mq_last hyl.out)
     have hi3 : ((s.size : Int) - 1 - q).toNat = s.size - 1 - q := by omega
     have hi7 : (s.size : Int) - 1 - q < ((s.size + t.size : Nat) : Int) := by omega
     have hi8 : (s.size : Int) - 1 - q < (s.size : Int) + t.size := by omega
     clear hrowi hbi
     go_wp2
     go_roundg (s.size - q)
     case rel =>
      refine ⟨q + 1, by congr 1; omega, by omega, by omega, (HRI.out.set (s.size - 1 - q) _).congr (fun j hj => ?_), HBI.out.setCell (p := ⟨w.heap.size, s.size - 1 - q, none⟩) (Nat.le_refl _) _⟩
      unfold mulF
      rw [hrt']
      have hhi : ∀ p, q + t.size < p → D8 (x % 256 ^ (q + 1) * y) p = 0 ∧ D8 (x % 256 ^ q * y) p = 0 := fun p hp => by
       have h1 : x % 256 ^ q * y < 256 ^ (q + t.size) := mul_lt_pow8 (Nat.mod_lt _ (p256_pos q)) hyl.out
       have h2 : x % 256 ^ (q + 1) * y < 256 ^ (q + 1 + t.size) := mul_lt_pow8 (Nat.mod_lt _ (p256_pos _)) hyl.out
       have h3 : 256 ^ (q + t.size) ≤ 256 ^ p := Nat.pow_le_pow_right (by decide) (by omega)
       have h4 : 256 ^ (q + 1 + t.size) ≤ 256 ^ p := Nat.pow_le_pow_right (by decide) (by omega)
       exact ⟨by unfold D8; rw [Nat.div_eq_of_lt (by omega)], by unfold D8; rw [Nat.div_eq_of_lt (by omega)]⟩
      have hlow : ∀ p, D8 (x % 256 ^ (q + 1 + 1) * y) p = D8 (x % 256 ^ (q + 1) * y) p ∨ True := fun _ => .inr trivial
      by_cases e : j = s.size - 1 - q
      ·rw [if_pos e, show s.size + t.size - 1 - j = q + t.size by omega, HC.out]
       by_cases e3 : q + t.size < q + 1 + 0
       ·rw [if_pos e3, row_low8 x y e3]
       ·rw [if_neg e3]
      ·rw [if_neg e]
       by_cases e2 : s.size + t.size - 1 - j < q + t.size
       ·rw [if_pos e2]
        by_cases e3 : s.size + t.size - 1 - j < q + 1 + 0
        ·rw [if_pos e3, row_low8 x y e3]
        ·rw [if_neg e3]
       ·rw [if_neg e2, (hhi _ (by omega)).2]
        by_cases e3 : s.size + t.size - 1 - j < q + 1 + 0
        ·omega
        ·rw [if_neg e3, (hhi _ (by omega)).1]
     case measure => omega
  ·have hqB : decide ((0 : Int) ≤ (s.size : Int) - 1 - q) = false := decide_eq_false (by omega)
   have hqe : q = s.size := by omega
   have hz : x * y < 256 ^ (s.size + t.size) := mul_lt_pow8 hxl.out hyl.out
   have hrow2 : wr.rowIs w.heap.size 3 (s.size + t.size) (fun j => .int .i64 (D8 (x * y) (s.size + t.size - 1 - j) : Nat)) := HR.out.congr fun j hj => by
    unfold mulF
    have h1 : x % 256 ^ q = x := Nat.mod_eq_of_lt (by rw [hqe]; exact hxl.out)
    have h2 : x % 256 ^ (q + 1) = x := Nat.mod_eq_of_lt (Nat.lt_of_lt_of_le hxl.out (Nat.pow_le_pow_right (by decide) (by omega)))
    rw [h1, h2]; split <;> rfl
   have hmk2 := HMK2.out
   clear hqe
   go_wp2
   clear hmk2
   have hg := hrow2.lt
   obtain ⟨N, hN⟩ : ∃ N, s.size + t.size = N := ⟨_, rfl⟩
   have hNI : (s.size : Int) + t.size = N := by omega
   have hNl : N ≤ 200000 := by omega
   rw [hN] at hrow2 hz ⊢
   rw [hNI]
   have hrowT : (wr.alloc (.cells (madeCells #[.int .u8 0] N) 5)).rowIs wr.heap.size 5 N (catF (x * y) N 0) := (World.rowIs_made wr _ N _).congr fun j hj => by unfold catF; rw [if_neg (by omega)]; rfl
   have hrowO := hrow2.alloc (.cells (madeCells #[.int .u8 0] N) 5)
   have hbT : Below w.heap.size w (wr.alloc (.cells (madeCells #[.int .u8 0] N) 5)) := HBL.out.alloc HBL.out.size _
   have hgT := HBL.out.size
   obtain ⟨T, hT⟩ : ∃ T, wr.heap.size = T := ⟨_, rfl⟩
   obtain ⟨W2, hW2⟩ : ∃ W2, wr.alloc (.cells (madeCells #[.int .u8 0] N) 5) = W2 := ⟨_, rfl⟩
   rw [hT] at hrowT hg hgT ⊢
   rw [hW2] at hrowT hrowO hbT ⊢
   clear hT hW2 hN hNI hqB hqs HR HBL hrow2
   go_loopg [10] (N + 1) (fun gg v10 w3 => ∃ k : Nat, v10 = .int .i64 k ∧ k ≤ N ∧ N + 1 - k ≤ gg ∧ w3.rowIs w.heap.size 3 N (fun j => .int .i64 (D8 (x * y) (N - 1 - j) : Nat)) ∧ w3.rowIs T 5 N (catF (x * y) N k) ∧ Below w.heap.size w w3)
   case atStart => exact ⟨0, rfl, by omega, by omega, hrowO, hrowT, hbT⟩
   case round =>
    clear hrowO hrowT hbT
    obtain ⟨k, rfl, hk, hm3, hO, hTT, hb3⟩ := hrel
    have HO3 := Lib.hid hO
    have HT3 := Lib.hid hTT
    have HB3 := Lib.hid hb3
    by_cases hkN : k < N
    ·have hkI : (k : Int) < N := by omega
     have oc := hO.cell (i := k) hkN
     have tc := hTT.cell (i := k) hkN
     have tf := hTT.frozen k
     unfold catF at tc
     rw [if_neg (by omega)] at tc
     have hdl := D8_lt (x * y) (N - 1 - k)
     obtain ⟨d, hd⟩ : ∃ d, D8 (x * y) (N - 1 - k) = d := ⟨_, rfl⟩
     have HDD := Lib.hid hd
     have oc' : wr.cell? ⟨w.heap.size, k, none⟩ = some (.int .i64 (d : Nat)) := by rw [← hd]; exact oc
     rw [hd] at hdl
     clear hO hTT hb3 oc hd
     go_wp2
     go_roundg (N - k)
     case rel =>
      refine ⟨k + 1, by go_num, by omega, by omega, HO3.out.setOther (by show w.heap.size ≠ T; omega) _, (HT3.out.set k _).congr (fun j hj => ?_), HB3.out.setCell (p := ⟨T, k, none⟩) hgT _⟩
      unfold catF
      by_cases e : j = k
      ·rw [if_pos e, if_pos (by omega), e, HDD.out]
      ·rw [if_neg e]
       by_cases e2 : j < k
       ·rw [if_pos e2, if_pos (by omega)]
       ·rw [if_neg e2, if_neg (by omega)]
     case measure => omega
    ·have hkB : decide ((k : Int) < N) = false := decide_eq_false (by omega)
     have hkB2 : decide (k < N) = false := decide_eq_false hkN
     have hke : k = N := by omega
     have hcat : wr.rowIs T 5 N (sumF (x * y) N N) := hTT.congr fun j hj => by
      unfold catF sumF; rw [if_pos (by omega), if_pos (by omega)]; rfl
     have hcv := conv_bytes hcat
     have HTR := Lib.hid (trim_bytes hz (by omega))
     clear hz hO hTT hb3 hkN hke hcat
     go_wp2_with (go_at_call 75; refine (HTR.out _).mono ?_; rintro e w1 ⟨rfl, rfl⟩)
     go_ret
     exact ⟨rfl, HB3.out⟩
end Go.Proofs.Gv
