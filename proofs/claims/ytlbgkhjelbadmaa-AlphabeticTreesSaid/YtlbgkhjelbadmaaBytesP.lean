/- integer.trim: the slice without the zeros at its end. -/
import Derived.Test.YtlbgkhjelbadmaaRows
import Derived.Test.YtlbgkhjelbadmaaKitP
set_option linter.unusedSimpArgs false
set_option linter.unusedVariables false
namespace Go.Proofs.Gv
open Go Go.RowKit

theorem Try.info75z : (Try.prog.info? 75).map (fun i => (i.zero, i.size, i.bytes)) = some (some (.int .u32 0), 1, 4) := by kernel_rfl

theorem mk_nat (N : Int) (n : Nat) (e : N = n) (h : n ≤ 1000000000) (w : World) :
    (Instr.makeSlice 69 (.int .i64 N) (.int .i64 N)).run Try.prog w = .ok (.slice (some ⟨w.heap.size, 0, none⟩) n n) (w.alloc (.cells (madeCells #[.int .u32 0] n) 75)) := by
  subst e
  exact run_make_row' (P := Try.prog) 69 75 (.int .u32 0) 4 Try.underlying69 Try.info75z rfl .i64 .i64 n (by omega) (by omega) w
/-- What make lays for a natural: zeros. -/
theorem made_row (w : World) (n : Nat) : (w.alloc (.cells (madeCells #[.int .u32 0] n) 75)).rowIs w.heap.size 75 n (u32s fun _ => 0) := World.rowIs_made w _ n _

theorem trim_step {f : Nat → Nat} {m : Nat} (h0 : 0 < m) (h : f (m - 1) = 0) : val f (m - 1) = val f m := by
  obtain ⟨k, rfl⟩ : ∃ k, m = k + 1 := ⟨m - 1, by omega⟩
  rw [Nat.add_sub_cancel] at h ⊢
  rw [val, h]; simp

theorem trim_stop {f : Nat → Nat} {m : Nat} (h0 : 0 < m) (hf : ∀ i, i < m → f i < B32) (h : f (m - 1) ≠ 0) : nlen (val f m) = m := by
  obtain ⟨k, rfl⟩ : ∃ k, m = k + 1 := ⟨m - 1, by omega⟩
  rw [Nat.add_sub_cancel] at h
  have h1 := nlen_le_iff.2 (val_lt hf)
  have h2 : k < nlen (val f (k + 1)) := by
    rw [lt_nlen_iff, val]
    have : 1 * B32 ^ k ≤ f k * B32 ^ k := Nat.mul_le_mul_right _ (by omega)
    omega
  omega

set_option maxHeartbeats 400000 in
theorem trim_any (A : Option Addr) (n c : Nat) (f : Nat → Nat) (w : World) (hr : Rd w w.heap.size A n f) (hf : ∀ i, i < n → f i < B32) (hc : n ≤ c) (hn : c ≤ 1000000000) :
    Calls Try.prog 81 #[.slice A n c] w fun e w' => e = .returned (.slice A (nlen (val f n)) c) ∧ w = w' := by
  have Hf := Lib.hid hf
  clear hf
  go_enter Try.func81, Try.ntmps81
  go_wp2
  go_loop [0] (fun v => ∃ m : Nat, m ≤ n ∧ v = .slice A m c ∧ val f m = val f n) (fun v => slLen v)
  case atStart => exact ⟨n, Nat.le_refl _, rfl, rfl⟩
  case round =>
    obtain ⟨m, hm, rfl, ht⟩ := hrel
    have Ht := Lib.hid ht
    clear ht
    by_cases h0 : 0 < m
    · obtain ⟨g, rfl, hg, hcell⟩ := hr (by omega)
      have hcm := hcell (m - 1) (by omega)
      clear hcell hr
      go_wp2
      · have hz : ((f (m - 1) : Nat) == (0 : Int)) = true := by assumption
        go_round
        case rel => exact ⟨m - 1, by omega, rfl, (trim_step h0 (by simpa using hz)).trans Ht.out⟩
        case measure => simp [slLen]; omega
      · go_ret
        have hz : ((f (m - 1) : Nat) == (0 : Int)) = false := by assumption
        refine ⟨?_, rfl⟩
        rw [← Ht.out, trim_stop h0 (fun i hi => Hf.out i (by omega)) (fun e => by rw [e] at hz; cases hz)]
        rfl
    · have e : m = 0 := by omega
      subst e
      go_wp2
      go_ret
      have h1 : val f n = 0 := Ht.out.symm
      exact ⟨by rw [h1, nlen_zero]; rfl, rfl⟩

/-- At a row of the digits of z. -/
theorem trim_row {w : World} {g t n z : Nat} (h : w.rowIs g t n (u32s (D z))) (hz : z < B32 ^ n) (hn : n ≤ 1000000000) :
    Calls Try.prog 81 #[.slice (some ⟨g, 0, none⟩) n n] w fun e w' => e = .returned (.slice (some ⟨g, 0, none⟩) (nlen z) n) ∧ w = w' := by
  have := trim_any (some ⟨g, 0, none⟩) n n (D z) w (Rd.of_row h (Nat.le_refl _)) (fun i _ => D_lt z i) (Nat.le_refl _) hn
  rwa [val_D, Nat.mod_eq_of_lt hz] at this
end Go.Proofs.Gv

namespace Go.Proofs.Gv

/-- Too great a guess. -/
theorem knuth_gt {g Yh Yl P Wh Wl : Nat} (hW : Wl < P) (h : Wh < g * Yh) : Wh * P + Wl < g * (Yh * P + Yl) := by
  have h1 : (Wh + 1) * P ≤ g * Yh * P := Nat.mul_le_mul_right _ h
  rw [Nat.add_mul] at h1
  rw [Nat.mul_add, ← Nat.mul_assoc]
  omega

/-- a with b on top of its first k digits. -/
def join (k a b : Nat) : Nat := a + b * B32 ^ k
theorem join_div {k a b : Nat} (ha : a < B32 ^ k) : join k a b / B32 ^ k = b := by
  unfold join
  rw [Nat.add_mul_div_right _ _ (pow_pos k), Nat.div_eq_of_lt ha, Nat.zero_add]
theorem D_div (x i k : Nat) : D (x / B32 ^ k) i = D x (k + i) := by
  unfold D
  rw [Nat.div_div_eq_div_mul, ← Nat.pow_add]
theorem D_join_high {k a b : Nat} (ha : a < B32 ^ k) (i : Nat) : D (join k a b) (k + i) = D b i := by
  rw [← D_div, join_div ha]
theorem D_mod {x i k : Nat} (h : i < k) : D (x % B32 ^ k) i = D x i := by
  obtain ⟨m, rfl⟩ : ∃ m, k = i + (m + 1) := ⟨k - i - 1, by omega⟩
  unfold D
  rw [Nat.pow_add, Nat.mod_mul_right_div_self, Nat.pow_succ, Nat.mod_mul_left_mod]
theorem D_join_low {k a b i : Nat} (h : i < k) : D (join k a b) i = D a i := by
  rw [← D_mod (x := join k a b) h, ← D_mod (x := a) h]
  congr 1
  unfold join
  rw [Nat.add_mul_mod_self_right]
/-- The head of a number with m + 2 digits. -/
theorem head2 {z m : Nat} (hz : z < B32 ^ (m + 2)) : z / B32 ^ m = D z (m + 1) * B32 + D z m := by
  rw [div_step z m, div_step z (m + 1), Nat.div_eq_of_lt hz, Nat.zero_mul, Nat.zero_add]
theorem head3 {z m : Nat} (hz : z < B32 ^ (m + 3)) : z / B32 ^ m = (D z (m + 2) * B32 + D z (m + 1)) * B32 + D z m := by
  rw [div_step z m, head2 (m := m + 1) hz]

/-- What the guesses of the long division keep: top = g * vt + r; the quotient is not greater. -/
structure Guess (Y W m top g r : Nat) : Prop where
  top : top = g * D Y (m + 1) + r
  ge : W / Y ≤ g
  le : g ≤ B32 + 1
  lt : r < B32

section
variable {Y W m g r : Nat}
/-- Y has m + 2 digits, the first one great; W is less than Y * B32. -/
structure Pair (Y W m : Nat) : Prop where
  hY : Y < B32 ^ (m + 2)
  vt : 2147483648 ≤ D Y (m + 1)
  hW : W < Y * B32

theorem Pair.pos (h : Pair Y W m) : 0 < Y := by
  have := h.hW
  rcases Nat.eq_zero_or_pos Y with e | e
  · subst e; omega
  · exact e
theorem Pair.quo (h : Pair Y W m) : W / Y < B32 := by
  rw [Nat.div_lt_iff_lt_mul h.pos, Nat.mul_comm]; exact h.hW
theorem Pair.W_lt (h : Pair Y W m) : W < B32 ^ (m + 3) := by
  have h1 : Y * B32 < B32 ^ (m + 2) * B32 := Nat.mul_lt_mul_of_pos_right h.hY B32_pos
  rw [← Nat.pow_succ] at h1
  exact Nat.lt_trans h.hW h1
/-- The first two digits of the window. -/
def wtop (W m : Nat) : Nat := D W (m + 2) * B32 + D W (m + 1)
theorem Pair.split (h : Pair Y W m) : Y = (D Y (m + 1) * B32 + D Y m) * B32 ^ m + Y % B32 ^ m ∧ W = (wtop W m * B32 + D W m) * B32 ^ m + W % B32 ^ m := by
  have e1 := Nat.div_add_mod Y (B32 ^ m)
  have e2 := Nat.div_add_mod W (B32 ^ m)
  rw [head2 h.hY, Nat.mul_comm] at e1
  rw [head3 h.W_lt, Nat.mul_comm] at e2
  exact ⟨e1.symm, e2.symm⟩
/-- The test says: too great. -/
theorem Guess.tooBig (h : Pair Y W m) (k : Guess Y W m (wtop W m) g r) (ht : B32 ≤ g ∨ r * B32 + D W m < g * D Y m) : W / Y < g := by
  rcases ht with ht | ht
  · exact Nat.lt_of_lt_of_le h.quo ht
  · obtain ⟨e1, e2⟩ := h.split
    rw [Nat.div_lt_iff_lt_mul h.pos]
    have h1 : wtop W m * B32 + D W m < g * (D Y (m + 1) * B32 + D Y m) := by
      rw [k.top, Nat.mul_add, Nat.add_mul, Nat.mul_assoc]; omega
    have := knuth_gt (Wl := W % B32 ^ m) (Yl := Y % B32 ^ m) (Nat.mod_lt _ (pow_pos m)) h1
    rwa [← e1, ← e2] at this
theorem Guess.next (h : Pair Y W m) (k : Guess Y W m (wtop W m) g r) (ht : B32 ≤ g ∨ r * B32 + D W m < g * D Y m) :
    1 ≤ g ∧ wtop W m = (g - 1) * D Y (m + 1) + (r + D Y (m + 1)) ∧ W / Y ≤ g - 1 ∧ g - 1 ≤ B32 := by
  have h1 := k.tooBig h ht
  have h2 := k.le
  obtain ⟨g', rfl⟩ : ∃ g', g = g' + 1 := ⟨g - 1, by have := Nat.zero_lt_of_lt h1; omega⟩
  have h3 := k.top
  rw [Nat.add_mul] at h3
  rw [Nat.add_sub_cancel]
  generalize W / Y = q at *
  omega
end
end Go.Proofs.Gv

namespace Go.Proofs.Gv

theorem snoc_ind {α : Type} {P : List α → Prop} (h0 : P []) (h1 : ∀ l a, P l → P (l ++ [a])) (l : List α) : P l := by
  suffices h : ∀ m : List α, P m.reverse by simpa using h l.reverse
  intro m
  induction m with
  | nil => exact h0
  | cons a m ih => rw [List.reverse_cons]; exact h1 _ _ ih

/-- The value of bytes. -/
def bv (l : List UInt8) : Nat := l.foldl (fun a c => 256 * a + c.toNat) 0
theorem bv_nil : bv [] = 0 := rfl
theorem bv_snoc (l : List UInt8) (c : UInt8) : bv (l ++ [c]) = 256 * bv l + c.toNat := by simp [bv, List.foldl_append]

/-- The bytes of a number, without zeros in front. -/
def byt (n : Nat) : List UInt8 := if h : n = 0 then [] else byt (n / 256) ++ [UInt8.ofNat (n % 256)]
termination_by n
decreasing_by exact Nat.div_lt_self (by omega) (by decide)
theorem byt_zero : byt 0 = [] := by rw [byt]; simp
theorem byt_pos {n : Nat} (h : n ≠ 0) : byt n = byt (n / 256) ++ [UInt8.ofNat (n % 256)] := by rw [byt]; simp [h]
theorem byt_step {n : Nat} {c : UInt8} (h : n ≠ 0 ∨ c ≠ 0) : byt (256 * n + c.toNat) = byt n ++ [c] := by
  have hc : c.toNat < 256 := c.toNat_lt
  have h0 : 256 * n + c.toNat ≠ 0 := by
    rcases h with h | h
    · omega
    · have : c.toNat ≠ 0 := fun e => h (UInt8.toNat_inj.1 (by rw [e]; rfl))
      omega
  rw [byt_pos h0, show (256 * n + c.toNat) / 256 = n by omega, show (256 * n + c.toNat) % 256 = c.toNat by omega, UInt8.ofNat_toNat]
theorem byt_eq_nil {n : Nat} : byt n = [] ↔ n = 0 := by
  constructor
  · intro h
    by_cases e : n = 0
    · exact e
    · rw [byt_pos e] at h; simp at h
  · rintro rfl; exact byt_zero
theorem bv_byt : ∀ n, bv (byt n) = n := by
  intro n
  induction n using Nat.strongRecOn with
  | _ n ih =>
    by_cases e : n = 0
    · subst e; rw [byt_zero]; rfl
    · rw [byt_pos e, bv_snoc, ih (n / 256) (Nat.div_lt_self (by omega) (by decide)), UInt8.toNat_ofNat']
      omega
theorem byt_inj {a b : Nat} (h : byt a = byt b) : a = b := by rw [← bv_byt a, h, bv_byt]
theorem bv_lt (l : List UInt8) : bv l < 256 ^ l.length := by
  refine snoc_ind (P := fun l => bv l < 256 ^ l.length) ?_ ?_ l
  · decide
  · intro l c ih
    have hc : c.toNat < 256 := c.toNat_lt
    rw [bv_snoc, List.length_append, List.length_singleton, Nat.pow_succ]; omega
theorem byt_len_le : ∀ (k n : Nat), n < 256 ^ k → (byt n).length ≤ k := by
  intro k
  induction k with
  | zero => intro n h; have : n = 0 := by simpa using h
            subst this; rw [byt_zero]; simp
  | succ k ih =>
    intro n h
    by_cases e : n = 0
    · subst e; rw [byt_zero]; simp
    · rw [byt_pos e, List.length_append, List.length_singleton]
      have := ih (n / 256) (by rw [Nat.div_lt_iff_lt_mul (by decide)]; rwa [Nat.pow_succ] at h)
      omega

/-- The value of the last k bytes: f numbers the bytes from the end. -/
def lv (f : Nat → Nat) : Nat → Nat
  | 0 => 0
  | k + 1 => lv f k + f k * 256 ^ k
theorem lv_lt {f : Nat → Nat} (h : ∀ i, f i < 256) (k : Nat) : lv f k < 256 ^ k := by
  induction k with
  | zero => simp [lv]
  | succ k ih =>
    have h3 : (f k + 1) * 256 ^ k ≤ 256 * 256 ^ k := Nat.mul_le_mul_right _ (h k)
    rw [lv, Nat.pow_succ]
    rw [Nat.add_mul] at h3; omega
theorem pow256 (k : Nat) : 256 ^ k = B32 ^ (k / 4) * 256 ^ (k % 4) := by
  conv => lhs; rw [← Nat.div_add_mod k 4]
  rw [Nat.pow_add, Nat.pow_mul]; rfl
/-- A further byte: it goes into digit k / 4. -/
theorem lv_digit {f : Nat → Nat} (h : ∀ i, f i < 256) (k : Nat) : D (lv f (k + 1)) (k / 4) = D (lv f k) (k / 4) + f k * 256 ^ (k % 4) ∧ D (lv f k) (k / 4) < 256 ^ (k % 4) ∧
    ∀ j, j ≠ k / 4 → D (lv f (k + 1)) j = D (lv f k) j := by
  have hk := lv_lt h k
  have h1 : lv f k / B32 ^ (k / 4) < 256 ^ (k % 4) := by
    rw [Nat.div_lt_iff_lt_mul (pow_pos _), Nat.mul_comm, ← pow256]; exact hk
  have h4 : 256 ^ (k % 4) * 256 ≤ B32 := by
    have : 256 ^ (k % 4) ≤ 256 ^ 3 := Nat.pow_le_pow_right (by decide) (by omega)
    have e : B32 = 256 ^ 3 * 256 := rfl
    rw [e]; exact Nat.mul_le_mul_right _ this
  have h256 : 0 < 256 ^ (k % 4) := Nat.pow_pos (by decide)
  have h2 : lv f k / B32 ^ (k / 4) < B32 := by omega
  have e2 : D (lv f k) (k / 4) = lv f k / B32 ^ (k / 4) := Nat.mod_eq_of_lt h2
  have e1 : lv f (k + 1) = join (k / 4) (lv f k % B32 ^ (k / 4)) (lv f k / B32 ^ (k / 4) + f k * 256 ^ (k % 4)) := by
    unfold join
    rw [lv, pow256 k, Nat.add_mul, ← Nat.add_assoc]
    have := Nat.mod_add_div (lv f k) (B32 ^ (k / 4))
    rw [Nat.mul_comm (lv f k / B32 ^ (k / 4)), this]
    congr 1
    simp only [Nat.mul_assoc, Nat.mul_comm, Nat.mul_left_comm]
  have hf := h k
  have h5 : lv f k / B32 ^ (k / 4) + f k * 256 ^ (k % 4) < B32 := by
    have : (f k + 1) * 256 ^ (k % 4) ≤ 256 * 256 ^ (k % 4) := Nat.mul_le_mul_right _ hf
    rw [Nat.add_mul, Nat.mul_comm 256] at this; omega
  refine ⟨?_, by rw [e2]; exact h1, fun j hj => ?_⟩
  · rw [e2, e1]
    have := D_join_high (k := k / 4) (a := lv f k % B32 ^ (k / 4)) (b := lv f k / B32 ^ (k / 4) + f k * 256 ^ (k % 4)) (Nat.mod_lt _ (pow_pos _)) 0
    rw [Nat.add_zero] at this
    rw [this]
    unfold D
    rw [Nat.pow_zero, Nat.div_one, Nat.mod_eq_of_lt h5]
  · rw [e1]
    by_cases hj2 : j < k / 4
    · rw [D_join_low hj2, D_mod hj2]
    · obtain ⟨m, rfl⟩ : ∃ m, j = k / 4 + (m + 1) := ⟨j - k / 4 - 1, by omega⟩
      rw [D_join_high (Nat.mod_lt _ (pow_pos _)), ← D_div (lv f k)]
      have z1 : ∀ z, z < B32 → D z (m + 1) = 0 := fun z hz => by
        unfold D
        rw [Nat.div_eq_of_lt, Nat.zero_mod]
        refine Nat.lt_of_lt_of_le hz ?_
        rw [Nat.pow_succ]
        exact Nat.le_mul_of_pos_left _ (pow_pos m)
      rw [z1 _ h5, z1 _ h2]
theorem lv_bv (l : List UInt8) : lv (fun i => if i < l.length then (l.getD (l.length - 1 - i) 0).toNat else 0) l.length = bv l := by
  have key : ∀ (k : Nat) (l : List UInt8), k ≤ l.length → lv (fun i => if i < l.length then (l.getD (l.length - 1 - i) 0).toNat else 0) k = bv (l.drop (l.length - k)) := by
    intro k
    induction k with
    | zero => intro l _; simp [lv, bv]
    | succ k ih =>
      intro l hk
      rw [lv, ih l (by omega)]
      rw [show l.drop (l.length - (k + 1)) = l.getD (l.length - 1 - k) 0 :: l.drop (l.length - k) by
        have h1 : l.length - (k + 1) < l.length := by omega
        rw [List.drop_eq_getElem_cons h1, show l.length - (k + 1) + 1 = l.length - k by omega]
        congr 1
        rw [List.getD_eq_getElem?_getD, List.getElem?_eq_getElem (by omega), Option.getD_some]
        congr 1
        omega]
      have hf : ∀ (m : List UInt8) (a : Nat), m.foldl (fun a c => 256 * a + c.toNat) a = a * 256 ^ m.length + bv m := by
        intro m
        refine snoc_ind (P := fun m => ∀ (a : Nat), m.foldl (fun a c => 256 * a + c.toNat) a = a * 256 ^ m.length + bv m) ?_ ?_ m
        · intro a; simp [bv]
        · intro m c ihm a
          rw [List.foldl_append, bv_snoc, ihm, List.length_append, List.length_singleton, Nat.pow_succ, ← Nat.mul_assoc]
          simp only [List.foldl_cons, List.foldl_nil]
          rw [Nat.mul_add]
          omega
      rw [if_pos (by omega)]
      conv => rhs; unfold bv; rw [List.foldl_cons]
      rw [hf, List.length_drop, show l.length - (l.length - k) = k by omega, Nat.mul_zero, Nat.zero_add]
      omega
  have := key l.length l (Nat.le_refl _)
  rw [Nat.sub_self, List.drop_zero] at this
  exact this
end Go.Proofs.Gv
