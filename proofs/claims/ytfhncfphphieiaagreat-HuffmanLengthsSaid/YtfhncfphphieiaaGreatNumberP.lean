import Derived.Test.YtfhncfphphieiaaGreatTrimP
set_option linter.unusedSimpArgs false
set_option linter.unusedVariables false
namespace Go.Proofs.Gv
theorem knuth_gt {g Yh Yl P Wh Wl : Nat} (hW : Wl < P) (h : Wh < g * Yh) : Wh * P + Wl < g * (Yh * P + Yl) := by
 have h1 : (Wh + 1) * P ≤ g * Yh * P := Nat.mul_le_mul_right _ h
 rw [Nat.add_mul] at h1
 rw [Nat.mul_add, ← Nat.mul_assoc]
 omega
theorem knuth_le {g Yh Yl P Wh Wl : Nat} (hY : Yl < P) (h : g * Yh ≤ Wh) (hg : g ≤ Yh + 1) : g * (Yh * P + Yl) ≤ (Wh * P + Wl) + (Yh * P + Yl) := by
 rcases g with _ | g
 ·omega
 ·have h1 : (g + 1) * Yh * P ≤ Wh * P := Nat.mul_le_mul_right _ h
  have h2 : g * Yl ≤ Yh * P := by
   have : g * Yl ≤ Yh * P := Nat.mul_le_mul (by omega) (by omega)
   exact this
  rw [Nat.add_mul, Nat.one_mul, Nat.mul_add, ← Nat.mul_assoc]
  rw [Nat.add_mul, Nat.add_mul, Nat.one_mul] at h1
  omega
def join (k a b : Nat) : Nat := a + b * B32 ^ k
theorem join_div {k a b : Nat} (ha : a < B32 ^ k) : join k a b / B32 ^ k = b := by
 unfold join
 rw [Nat.add_mul_div_right _ _ (pow_pos k), Nat.div_eq_of_lt ha, Nat.zero_add]
theorem D_div (x i k : Nat) : D (x / B32 ^ k) i = D x (k + i) := by
 unfold D
 rw [Nat.div_div_eq_div_mul, ← Nat.pow_add]
theorem D_join_high {k a b : Nat} (ha : a < B32 ^ k) (i : Nat) : D (join k a b) (k + i) = D b i := by
 rw [← D_div, join_div ha]
theorem D_mod {x i k : Nat} (h : i < k) : D (x % B32 ^ k) i = D x i := by
 obtain ⟨m, rfl⟩ : ∃ m, k = i + (m + 1) := ⟨k - i - 1, by omega⟩
 unfold D
 rw [Nat.pow_add, Nat.mod_mul_right_div_self, Nat.pow_succ, Nat.mod_mul_left_mod]
theorem D_join_low {k a b i : Nat} (h : i < k) : D (join k a b) i = D a i := by
 rw [← D_mod (x := join k a b) h, ← D_mod (x := a) h]
 congr 1
 unfold join
 rw [Nat.add_mul_mod_self_right]
theorem join_lt {k m a b : Nat} (ha : a < B32 ^ k) (hb : b < B32 ^ m) : join k a b < B32 ^ (k + m) := by
 unfold join
 have h : (b + 1) * B32 ^ k ≤ B32 ^ m * B32 ^ k := Nat.mul_le_mul_right _ hb
 rw [Nat.add_mul, Nat.mul_comm (B32 ^ m), ← Nat.pow_add] at h
 omega
theorem join_step (x k r : Nat) : join (k + 1) (x % B32 ^ (k + 1)) r = join k (x % B32 ^ k) (r * B32 + D x k) := by
 unfold join
 rw [mod_succ, Nat.add_mul, Nat.pow_succ, Nat.mul_comm (B32 ^ k) B32, ← Nat.mul_assoc, Nat.mul_comm (B32 ^ k) (D x k)]
 omega
theorem head2 {z m : Nat} (hz : z < B32 ^ (m + 2)) : z / B32 ^ m = D z (m + 1) * B32 + D z m := by
 rw [div_step z m, div_step z (m + 1), Nat.div_eq_of_lt hz, Nat.zero_mul, Nat.zero_add]
theorem head3 {z m : Nat} (hz : z < B32 ^ (m + 3)) : z / B32 ^ m = (D z (m + 2) * B32 + D z (m + 1)) * B32 + D z m := by
 rw [div_step z m, head2 (m := m + 1) hz]
structure Guess (Y W m top g r : Nat) : Prop where
 top : top = g * D Y (m + 1) + r
 ge : W / Y ≤ g
 le : g ≤ B32 + 1
 lt : r < B32
section
variable {Y W m g r : Nat}
structure Pair (Y W m : Nat) : Prop where
 hY : Y < B32 ^ (m + 2)
 vt : 2147483648 ≤ D Y (m + 1)
 hW : W < Y * B32
theorem Pair.pos (h : Pair Y W m) : 0 < Y := by
 have := h.hW
 rcases Nat.eq_zero_or_pos Y with e | e
 ·subst e; omega
 ·exact e
theorem Pair.quo (h : Pair Y W m) : W / Y < B32 := by
 rw [Nat.div_lt_iff_lt_mul h.pos, Nat.mul_comm]; exact h.hW
theorem Pair.W_lt (h : Pair Y W m) : W < B32 ^ (m + 3) := by
 have h1 : Y * B32 < B32 ^ (m + 2) * B32 := Nat.mul_lt_mul_of_pos_right h.hY B32_pos
 rw [← Nat.pow_succ] at h1
 exact Nat.lt_trans h.hW h1
def wtop (W m : Nat) : Nat := D W (m + 2) * B32 + D W (m + 1)
theorem Pair.split (h : Pair Y W m) : Y = (D Y (m + 1) * B32 + D Y m) * B32 ^ m + Y % B32 ^ m ∧ W = (wtop W m * B32 + D W m) * B32 ^ m + W % B32 ^ m := by
 have e1 := Nat.div_add_mod Y (B32 ^ m)
 have e2 := Nat.div_add_mod W (B32 ^ m)
 rw [head2 h.hY, Nat.mul_comm] at e1
 rw [head3 h.W_lt, Nat.mul_comm] at e2
 exact ⟨e1.symm, e2.symm⟩
theorem Pair.top_le (h : Pair Y W m) : D W (m + 2) ≤ D Y (m + 1) := by
 have h1 : W / B32 ^ (m + 2) ≤ Y / B32 ^ (m + 1) := by
  rw [Nat.pow_succ, Nat.mul_comm, ← Nat.div_div_eq_div_mul]
  apply Nat.div_le_div_right
  have := Nat.div_lt_iff_lt_mul (x := W) (y := Y) B32_pos |>.2 h.hW
  omega
 have h2 : W / B32 ^ (m + 2) = D W (m + 2) := by
  rw [div_step W (m + 2), Nat.div_eq_of_lt h.W_lt, Nat.zero_mul, Nat.zero_add]
 have h3 : Y / B32 ^ (m + 1) = D Y (m + 1) := by
  rw [div_step Y (m + 1), Nat.div_eq_of_lt h.hY, Nat.zero_mul, Nat.zero_add]
 omega
theorem Guess.start (h : Pair Y W m) : Guess Y W m (wtop W m) (wtop W m / D Y (m + 1)) (wtop W m % D Y (m + 1)) := by
 have hv := h.vt
 have hv2 := D_lt Y (m + 1)
 have hw := D_lt W (m + 1)
 have ht := h.top_le
 refine ⟨by rw [Nat.mul_comm]; exact (Nat.div_add_mod _ _).symm, ?_, ?_, ?_⟩
 ·-- W / Y ≤ top / vt
  obtain ⟨e1, e2⟩ := h.split
  rw [Nat.le_div_iff_mul_le (by omega)]
  have h1 : W / Y * Y ≤ W := Nat.div_mul_le_self _ _
  have h2 : W / Y * (D Y (m + 1) * B32 ^ (m + 1)) ≤ W := Nat.le_trans (Nat.mul_le_mul_left _ (by
   conv => rhs; rw [e1]
   rw [Nat.add_mul, Nat.pow_succ, Nat.mul_comm (B32 ^ m), ← Nat.mul_assoc, Nat.add_assoc]; exact Nat.le_add_right _ _)) h1
  rw [← Nat.mul_assoc] at h2
  have h3 := (Nat.le_div_iff_mul_le (pow_pos (m + 1))).2 h2
  rwa [head2 (m := m + 1) h.W_lt] at h3
 ·have : wtop W m / D Y (m + 1) < B32 + 2 := by
   rw [Nat.div_lt_iff_lt_mul (by omega)]
   unfold wtop
   have h4 : D W (m + 2) * B32 ≤ D Y (m + 1) * B32 := Nat.mul_le_mul_right _ ht
   have h5 : B32 = 4294967296 := rfl
   rw [Nat.add_mul, Nat.mul_comm B32 (D Y (m + 1))]
   omega
  omega
 ·exact Nat.lt_trans (Nat.mod_lt _ (by omega)) hv2
theorem Guess.tooBig (h : Pair Y W m) (k : Guess Y W m (wtop W m) g r) (ht : B32 ≤ g ∨ r * B32 + D W m < g * D Y m) : W / Y < g := by
 rcases ht with ht | ht
 ·exact Nat.lt_of_lt_of_le h.quo ht
 ·obtain ⟨e1, e2⟩ := h.split
  rw [Nat.div_lt_iff_lt_mul h.pos]
  have h1 : wtop W m * B32 + D W m < g * (D Y (m + 1) * B32 + D Y m) := by
   rw [k.top, Nat.mul_add, Nat.add_mul, Nat.mul_assoc]; omega
  have := knuth_gt (Wl := W % B32 ^ m) (Yl := Y % B32 ^ m) (Nat.mod_lt _ (pow_pos m)) h1
  rwa [← e1, ← e2] at this
theorem Guess.next (h : Pair Y W m) (k : Guess Y W m (wtop W m) g r) (ht : B32 ≤ g ∨ r * B32 + D W m < g * D Y m) :
  1 ≤ g ∧ wtop W m = (g - 1) * D Y (m + 1) + (r + D Y (m + 1)) ∧ W / Y ≤ g - 1 ∧ g - 1 ≤ B32 := by
 have h1 := k.tooBig h ht
 have h2 := k.le
 obtain ⟨g', rfl⟩ : ∃ g', g = g' + 1 := ⟨g - 1, by have := Nat.zero_lt_of_lt h1; omega⟩
 have h3 := k.top
 rw [Nat.add_mul] at h3
 rw [Nat.add_sub_cancel]
 generalize W / Y = q at *
 omega
theorem guess_end (h : Pair Y W m) (hg : g ≤ B32) (h1 : g * (D Y (m + 1) * B32 + D Y m) ≤ wtop W m * B32 + D W m) : g * Y ≤ W + Y := by
 obtain ⟨e1, e2⟩ := h.split
 have hv := h.vt
 have := knuth_le (Wl := W % B32 ^ m) (Yl := Y % B32 ^ m) (Nat.mod_lt _ (pow_pos m)) h1 (by
  have : 1 * B32 ≤ D Y (m + 1) * B32 := Nat.mul_le_mul_right _ (by omega)
  omega)
 rwa [← e1, ← e2] at this
theorem Guess.endTest (h : Pair Y W m) (k : Guess Y W m (wtop W m) g r) (hg : g < B32) (ht : g * D Y m ≤ r * B32 + D W m) : g * Y ≤ W + Y := by
 refine guess_end h (by omega) ?_
 rw [k.top, Nat.mul_add, Nat.add_mul, Nat.mul_assoc]; omega
theorem guess_endBreak (h : Pair Y W m) (hk : wtop W m = g * D Y (m + 1) + r) (hg : g ≤ B32) (hr : B32 ≤ r) : g * Y ≤ W + Y := by
 refine guess_end h hg ?_
 have h1 : g * D Y m ≤ B32 * B32 := Nat.mul_le_mul hg (Nat.le_of_lt (D_lt Y m))
 have h2 : B32 * B32 ≤ r * B32 := Nat.mul_le_mul_right _ hr
 rw [hk, Nat.mul_add, Nat.add_mul, Nat.mul_assoc]; omega
end
end Go.Proofs.Gv
namespace Go.Proofs.Gv
theorem snoc_ind {α : Type} {P : List α → Prop} (h0 : P []) (h1 : ∀ l a, P l → P (l ++ [a])) (l : List α) : P l := by
 suffices h : ∀ m : List α, P m.reverse by simpa using h l.reverse
 intro m
 induction m with
 | nil => exact h0
 | cons a m ih => rw [List.reverse_cons]; exact h1 _ _ ih
def bv (l : List UInt8) : Nat := l.foldl (fun a c => 256 * a + c.toNat) 0
theorem bv_nil : bv [] = 0 := rfl
theorem bv_snoc (l : List UInt8) (c : UInt8) : bv (l ++ [c]) = 256 * bv l + c.toNat := by simp [bv, List.foldl_append]
def byt (n : Nat) : List UInt8 := if h : n = 0 then [] else byt (n / 256) ++ [UInt8.ofNat (n % 256)]
termination_by n
decreasing_by exact Nat.div_lt_self (by omega) (by decide)
theorem byt_zero : byt 0 = [] := by rw [byt]; simp
theorem byt_pos {n : Nat} (h : n ≠ 0) : byt n = byt (n / 256) ++ [UInt8.ofNat (n % 256)] := by rw [byt]; simp [h]
theorem byt_step {n : Nat} {c : UInt8} (h : n ≠ 0 ∨ c ≠ 0) : byt (256 * n + c.toNat) = byt n ++ [c] := by
 have hc : c.toNat < 256 := c.toNat_lt
 have h0 : 256 * n + c.toNat ≠ 0 := by
  rcases h with h | h
  ·omega
  ·have : c.toNat ≠ 0 := fun e => h (UInt8.toNat_inj.1 (by rw [e]; rfl))
   omega
 rw [byt_pos h0, show (256 * n + c.toNat) / 256 = n by omega, show (256 * n + c.toNat) % 256 = c.toNat by omega, UInt8.ofNat_toNat]
theorem byt_eq_nil {n : Nat} : byt n = [] ↔ n = 0 := by
 constructor
 ·intro h
  by_cases e : n = 0
  ·exact e
  ·rw [byt_pos e] at h; simp at h
 ·rintro rfl; exact byt_zero
theorem bv_byt : ∀ n, bv (byt n) = n := by
 intro n
 induction n using Nat.strongRecOn with
 | _ n ih =>
   by_cases e : n = 0
   ·subst e; rw [byt_zero]; rfl
   ·rw [byt_pos e, bv_snoc, ih (n / 256) (Nat.div_lt_self (by omega) (by decide)), UInt8.toNat_ofNat']
    omega
theorem byt_inj {a b : Nat} (h : byt a = byt b) : a = b := by rw [← bv_byt a, h, bv_byt]
theorem bv_lt (l : List UInt8) : bv l < 256 ^ l.length := by
 refine snoc_ind (P := fun l => bv l < 256 ^ l.length) ?_ ?_ l
 ·decide
 ·intro l c ih
  have hc : c.toNat < 256 := c.toNat_lt
  rw [bv_snoc, List.length_append, List.length_singleton, Nat.pow_succ]; omega
theorem byt_len_le : ∀ (k n : Nat), n < 256 ^ k → (byt n).length ≤ k := by
 intro k
 induction k with
 | zero => intro n h; have : n = 0 := by simpa using h
           subst this; rw [byt_zero]; simp
 | succ k ih =>
   intro n h
   by_cases e : n = 0
   ·subst e; rw [byt_zero]; simp
   ·rw [byt_pos e, List.length_append, List.length_singleton]
    have := ih (n / 256) (by rw [Nat.div_lt_iff_lt_mul (by decide)]; rwa [Nat.pow_succ] at h)
    omega
def lv (f : Nat → Nat) : Nat → Nat
 | 0 => 0
 | k + 1 => lv f k + f k * 256 ^ k
theorem lv_lt {f : Nat → Nat} (h : ∀ i, f i < 256) (k : Nat) : lv f k < 256 ^ k := by
 induction k with
 | zero => simp [lv]
 | succ k ih =>
   have h3 : (f k + 1) * 256 ^ k ≤ 256 * 256 ^ k := Nat.mul_le_mul_right _ (h k)
   rw [lv, Nat.pow_succ]
   rw [Nat.add_mul] at h3; omega
theorem pow256 (k : Nat) : 256 ^ k = B32 ^ (k / 4) * 256 ^ (k % 4) := by
 conv => lhs; rw [← Nat.div_add_mod k 4]
 rw [Nat.pow_add, Nat.pow_mul]; rfl
theorem lv_digit {f : Nat → Nat} (h : ∀ i, f i < 256) (k : Nat) : D (lv f (k + 1)) (k / 4) = D (lv f k) (k / 4) + f k * 256 ^ (k % 4) ∧ D (lv f k) (k / 4) < 256 ^ (k % 4) ∧
  ∀ j, j ≠ k / 4 → D (lv f (k + 1)) j = D (lv f k) j := by
 have hk := lv_lt h k
 have h1 : lv f k / B32 ^ (k / 4) < 256 ^ (k % 4) := by
  rw [Nat.div_lt_iff_lt_mul (pow_pos _), Nat.mul_comm, ← pow256]; exact hk
 have h4 : 256 ^ (k % 4) * 256 ≤ B32 := by
  have : 256 ^ (k % 4) ≤ 256 ^ 3 := Nat.pow_le_pow_right (by decide) (by omega)
  have e : B32 = 256 ^ 3 * 256 := rfl
  rw [e]; exact Nat.mul_le_mul_right _ this
 have h256 : 0 < 256 ^ (k % 4) := Nat.pow_pos (by decide)
 have h2 : lv f k / B32 ^ (k / 4) < B32 := by omega
 have e2 : D (lv f k) (k / 4) = lv f k / B32 ^ (k / 4) := Nat.mod_eq_of_lt h2
 have e1 : lv f (k + 1) = join (k / 4) (lv f k % B32 ^ (k / 4)) (lv f k / B32 ^ (k / 4) + f k * 256 ^ (k % 4)) := by
  unfold join
  rw [lv, pow256 k, Nat.add_mul, ← Nat.add_assoc]
  have := Nat.mod_add_div (lv f k) (B32 ^ (k / 4))
  rw [Nat.mul_comm (lv f k / B32 ^ (k / 4)), this]
  congr 1
  simp only [Nat.mul_assoc, Nat.mul_comm, Nat.mul_left_comm]
 have hf := h k
 have h5 : lv f k / B32 ^ (k / 4) + f k * 256 ^ (k % 4) < B32 := by
  have : (f k + 1) * 256 ^ (k % 4) ≤ 256 * 256 ^ (k % 4) := Nat.mul_le_mul_right _ hf
  rw [Nat.add_mul, Nat.mul_comm 256] at this; omega
 refine ⟨?_, by rw [e2]; exact h1, fun j hj => ?_⟩
 ·rw [e2, e1]
  have := D_join_high (k := k / 4) (a := lv f k % B32 ^ (k / 4)) (b := lv f k / B32 ^ (k / 4) + f k * 256 ^ (k % 4)) (Nat.mod_lt _ (pow_pos _)) 0
  rw [Nat.add_zero] at this
  rw [this]
  unfold D
  rw [Nat.pow_zero, Nat.div_one, Nat.mod_eq_of_lt h5]
 ·rw [e1]
  by_cases hj2 : j < k / 4
  ·rw [D_join_low hj2, D_mod hj2]
  ·obtain ⟨m, rfl⟩ : ∃ m, j = k / 4 + (m + 1) := ⟨j - k / 4 - 1, by omega⟩
   rw [D_join_high (Nat.mod_lt _ (pow_pos _)), ← D_div (lv f k)]
   have z1 : ∀ z, z < B32 → D z (m + 1) = 0 := fun z hz => by
    unfold D
    rw [Nat.div_eq_of_lt, Nat.zero_mod]
    refine Nat.lt_of_lt_of_le hz ?_
    rw [Nat.pow_succ]
    exact Nat.le_mul_of_pos_left _ (pow_pos m)
   rw [z1 _ h5, z1 _ h2]
theorem lv_bv (l : List UInt8) : lv (fun i => if i < l.length then (l.getD (l.length - 1 - i) 0).toNat else 0) l.length = bv l := by
 have key : ∀ (k : Nat) (l : List UInt8), k ≤ l.length → lv (fun i => if i < l.length then (l.getD (l.length - 1 - i) 0).toNat else 0) k = bv (l.drop (l.length - k)) := by
  intro k
  induction k with
  | zero => intro l _; simp [lv, bv]
  | succ k ih =>
    intro l hk
    rw [lv, ih l (by omega)]
    rw [show l.drop (l.length - (k + 1)) = l.getD (l.length - 1 - k) 0 :: l.drop (l.length - k) by
     have h1 : l.length - (k + 1) < l.length := by omega
     rw [List.drop_eq_getElem_cons h1, show l.length - (k + 1) + 1 = l.length - k by omega]
     congr 1
     rw [List.getD_eq_getElem?_getD, List.getElem?_eq_getElem (by omega), Option.getD_some]
     congr 1
     omega]
    have hf : ∀ (m : List UInt8) (a : Nat), m.foldl (fun a c => 256 * a + c.toNat) a = a * 256 ^ m.length + bv m := by
     intro m
     refine snoc_ind (P := fun m => ∀ (a : Nat), m.foldl (fun a c => 256 * a + c.toNat) a = a * 256 ^ m.length + bv m) ?_ ?_ m
     ·intro a; simp [bv]
     ·intro m c ihm a
      rw [List.foldl_append, bv_snoc, ihm, List.length_append, List.length_singleton, Nat.pow_succ, ← Nat.mul_assoc]
      simp only [List.foldl_cons, List.foldl_nil]
      rw [Nat.mul_add]
      omega
    rw [if_pos (by omega)]
    conv => rhs; unfold bv; rw [List.foldl_cons]
    rw [hf, List.length_drop, show l.length - (l.length - k) = k by omega, Nat.mul_zero, Nat.zero_add]
    omega
 have := key l.length l (Nat.le_refl _)
 rw [Nat.sub_self, List.drop_zero] at this
 exact this
end Go.Proofs.Gv
namespace Go.Proofs.Gv
open Go Go.RowKit
def mg (n : Nat) : ByteArray := ⟨(byt n).toArray⟩
def sg (ng : Bool) (n : Nat) : Bool := ng && !(n == 0)
def RetInt (w : World) (ng : Bool) (n : Nat) (e : Ending) (w' : World) : Prop :=
 e = .returned (.agg #[.bool (sg ng n), .string (mg n)]) ∧ Below w.heap.size w w'
def hd (x i q : Nat) : Nat := x / B32 ^ i / 256 ^ q
theorem hd_top (x i : Nat) : hd x i 4 = hd x (i + 1) 0 := by
 unfold hd
 rw [show (256 : Nat) ^ 4 = B32 from rfl, Nat.div_div_eq_div_mul, ← Nat.pow_succ, Nat.pow_zero, Nat.div_one]
theorem hd_step (x i q : Nat) : hd x i q = 256 * hd x i (q + 1) + hd x i q % 256 := by
 have e : hd x i (q + 1) = hd x i q / 256 := by unfold hd; rw [Nat.div_div_eq_div_mul _ (256 ^ q), ← Nat.pow_succ]
 rw [e]; omega
theorem hd_byte (x i q : Nat) (h : q ≤ 3) : D x i / 2 ^ (8 * q) % 256 = hd x i q % 256 := by
 unfold hd D
 rw [Nat.pow_mul, show (2 : Nat) ^ 8 = 256 from rfl]
 have : B32 = 256 ^ q * 256 ^ (4 - q) := by rw [← Nat.pow_add, show q + (4 - q) = 4 by omega]; rfl
 rw [this, Nat.mod_mul_right_div_self, show (256 : Nat) ^ (4 - q) = 256 * 256 ^ (3 - q) by rw [← Nat.pow_succ', show (3 - q).succ = 4 - q by omega], Nat.mod_mul_right_mod]
def u8s (l : List UInt8) : List Value := l.map fun b => .int .u8 (b.toNat : Nat)
theorem Tryz.info5z : (Tryz.prog.info? 5).map (fun i => (i.zero, i.size, i.bytes)) = some (some (.int .u8 0), 1, 1) := by kernel_rfl
theorem hd_le (x i q : Nat) : hd x i q ≤ x := Nat.le_trans (Nat.div_le_self _ _) (Nat.div_le_self _ _)
theorem byt_fit {v x : Nat} (h : v ≤ x) : (byt v).length ≤ 4 * nlen x := by
 apply byt_len_le
 rw [Nat.pow_mul, show (256 : Nat) ^ 4 = B32 from rfl]
 exact Nat.lt_of_le_of_lt h (lt_pow_nlen x)
def nb (x i k : Nat) : UInt8 := UInt8.ofNat (hd x i k % 256)
theorem nb_nat (x i k : Nat) : (nb x i k).toNat = hd x i k % 256 := by
 unfold nb
 rw [UInt8.toNat_ofNat']
 omega
theorem nb_int (x i k : Nat) (h : k ≤ 3) : (D x i : Int) / 2 ^ (8 * k) % 256 = ((nb x i k).toNat : Nat) := by
 rw [nb_nat, ← hd_byte x i k h]
 simp
theorem hd_zero {x i k : Nat} (h1 : hd x i (k + 1) = 0) (h2 : nb x i k = 0) : hd x i k = 0 := by
 rw [hd_step x i k, h1, ← nb_nat, h2]; rfl
theorem hd_snoc {x i k : Nat} (h : hd x i (k + 1) ≠ 0 ∨ nb x i k ≠ 0) : byt (hd x i k) = byt (hd x i (k + 1)) ++ [nb x i k] := by
 rw [hd_step x i k, ← nb_nat]
 exact byt_step h
theorem u8s_snoc (l : List UInt8) (b : UInt8) : u8s (l ++ [b]) = u8s l ++ [.int .u8 (b.toNat : Nat)] := by simp [u8s]
theorem str_of_u8s (l : List UInt8) : strOfNums (l.map fun b => (b.toNat : Int)) = ⟨l.toArray⟩ := by
 unfold strOfNums
 simp only [List.map_map, Function.comp_def, Int.toNat_natCast, UInt8.ofNat_toNat, List.map_id']
theorem num_rel {w wb wr w1 : World} {V : List UInt8} {b : UInt8} {x i k c : Nat} (o : Obj) (hV : byt (hd x i k) = V ++ [b]) (hk : k ≤ 4) (hbs : wb.heap.size = w.heap.size + 1)
  (hb : Below (w.heap.size + 1) wb wr) (hown : w1.ownsRow (w.heap.size + 1) 5 1 (.slice (some ⟨w.heap.size + 1, 0, none⟩) (V.length + 1) c) (V.length + 1) (u8s V ++ [.int .u8 (b.toNat : Nat)])) (hg : (wr.alloc o).grownBy w1 (some (w.heap.size + 1))) :
  k ≤ 4 ∧ Value.int .i64 ((k : Int) - 1) = .int .i64 ((k : Int) - 1) ∧ Value.slice (some ⟨w.heap.size + 1, 0, none⟩) (V.length + 1) c = .slice (some ⟨w.heap.size + 1, 0, none⟩) (byt (hd x i k)).length c ∧
          w1.ownsRow (w.heap.size + 1) 5 1 (.slice (some ⟨w.heap.size + 1, 0, none⟩) (byt (hd x i k)).length c) (byt (hd x i k)).length (u8s (byt (hd x i k))) ∧ Below (w.heap.size + 1) wb w1 := by
 have hsz := hb.size
 refine ⟨hk, rfl, ?_, ?_, (hb.alloc (by omega) o).grown hg (by simp; omega) (fun j h => by cases h; exact Nat.le_refl _)⟩
 ·rw [hV]; simp
 ·rw [hV, u8s_snoc, List.length_append, List.length_singleton]; exact hown
set_option maxHeartbeats 800000 in
theorem number_any (ng : Bool) (A : Option Addr) (n c : Nat) (f : Nat → Nat) (w : World) (hr : Rd w w.heap.size A n f) (hf : ∀ i, i < n → f i < B32) (hc : n ≤ c) (hn : c ≤ 1000000000) (hn' : n ≤ 10000000) :
  Calls Tryz.prog 40 #[.bool ng, .slice A n c] w (RetInt w ng (val f n)) := by
 have Hf := Lib.hid hf
 have Hr := Lib.hid hr
 clear hf hr
 obtain ⟨i0, hi0, hz0, hz1, hz2⟩ := info_parts Tryz.info5z
 obtain ⟨x, hx⟩ : ∃ x, x = val f n := ⟨_, rfl⟩
 have hm : nlen x ≤ n := by rw [hx]; exact nlen_le_iff.2 (val_lt Hf.out)
 have Hx := Lib.hid hx
 clear hx
 go_enter Tryz.func40, Tryz.ntmps40
 go_wp2_with fail
 refine (trim_any A n c f _ ((Hr.out.below ((Below.refl _ _).alloc (Nat.le_refl _) _)).more (by simp)) Hf.out hc hn).mono ?_
 rintro e w' ⟨rfl, rfl⟩
 rw [← Hx.out]
 by_cases h0 : nlen x = 0
 ·have e0 : x = 0 := nlen_eq_zero.1 h0
  have Hx0 := Lib.hid e0
  rw [h0]
  clear h0 e0
  go_wp2
  refine bodyPost_ret (v := .agg #[.bool false, .string ByteArray.empty]) (by simp [results, Tryz.results40, go_sem]; rfl) rfl ?_
  rw [← Hx.out, Hx0.out]
  exact ⟨by simp [sg, mg, byt_zero]; rfl, (Below.refl _ _).alloc (Nat.le_refl _) _⟩
 ·have h1 : ((nlen x : Int) == 0) = false := by rw [beq_eq_false_iff_ne]; omega
  go_wp2_with (at_make; refine wpList_make_own _ rfl _ _ 96 rfl (w.heap.size + 1) 5 i0 (.int .u8 0) 1 Tryz.underlying96 hi0 hz0 hz1 _ _ _ (4 * nlen x) rfl rfl (by omega) ?b2 ?b3 (by simp) ?_)
  case b2 => rw [hz2]; omega
  case b3 => unfold maxLen; omega
  intro w0 hown0 hgrow0
  have hpos : 0 < n := by omega
  obtain ⟨g, rfl, hg, hcell⟩ := Hr.out hpos
  have Hcell : Hid (∀ j, j < nlen x → w.cell? ⟨g, j, none⟩ = some (.int .u32 (D x j : Nat))) := fun j hj => by rw [hcell j (by omega), Hx.out, D_val Hf.out j (by omega)]
  clear hcell
  obtain ⟨wb, hwb⟩ : ∃ wb, w.alloc (.cells #[.bool false, .string ByteArray.empty] 36) = wb := ⟨_, rfl⟩
  have hbb : Below w.heap.size w wb := by rw [← hwb]; exact (Below.refl _ _).alloc (Nat.le_refl _) _
  have hbs : wb.heap.size = w.heap.size + 1 := by rw [← hwb]; simp
  have hb0 : Below (w.heap.size + 1) wb w0 := by
   rw [← hwb]
   exact (Below.refl _ _).grown hgrow0 (by simp) (fun k h => by cases h)
  have hr0 : wb.cell? ⟨w.heap.size, 0, none⟩ = some (.bool false) := by rw [← hwb]; simp [go_sem]
  have hr1 : wb.cell? ⟨w.heap.size, 1, none⟩ = some (.string ByteArray.empty) := by rw [← hwb]; simp [go_sem]
  have hf0 : ∀ i, wb.frozen? ⟨w.heap.size, i, none⟩ = false := fun i => by rw [← hwb]; simp [go_sem]
  have Hf0 := Lib.hid hf0
  clear hwb hgrow0 hf0
  go_wp2
  go_loopw [5, 6] (fun s5 s6 wr => ∃ p : Nat, p ≤ nlen x ∧ s6 = .int .i64 ((p : Int) - 1) ∧ s5 = .slice (some ⟨w.heap.size + 1, 0, none⟩) (byt (hd x p 0)).length (4 * nlen x) ∧
    wr.ownsRow (w.heap.size + 1) 5 1 (.slice (some ⟨w.heap.size + 1, 0, none⟩) (byt (hd x p 0)).length (4 * nlen x)) (byt (hd x p 0)).length (u8s (byt (hd x p 0))) ∧ Below (w.heap.size + 1) wb wr)
   (fun _ i _ => (intOf i + 1).toNat)
  case atStart =>
   have e : hd x (nlen x) 0 = 0 := by unfold hd; rw [Nat.div_eq_of_lt (lt_pow_nlen x), Nat.zero_div]
   exact ⟨nlen x, Nat.le_refl _, rfl, by rw [e, byt_zero]; rfl, by rw [e, byt_zero]; exact hown0, hb0⟩
  case round =>
   obtain ⟨p, hp, rfl, rfl, hown, hb⟩ := hrel
   by_cases hp0 : 0 < p
   ·obtain ⟨i, rfl⟩ : ∃ i, p = i + 1 := ⟨p - 1, by omega⟩
    rw [← hd_top] at hown ⊢
    rw [show ((i + 1 : Nat) : Int) - 1 = (i : Nat) by omega]
    go_wp2_with fail
    obtain ⟨wo, hwo⟩ : ∃ wo : World, wr = wo := ⟨_, rfl⟩
    subst hwo
    go_loopg [5, 7] 4 (fun q s5 s7 wr => q ≤ 4 ∧ s7 = .int .i64 ((q : Int) - 1) ∧ s5 = .slice (some ⟨w.heap.size + 1, 0, none⟩) (byt (hd x i q)).length (4 * nlen x) ∧
      wr.ownsRow (w.heap.size + 1) 5 1 (.slice (some ⟨w.heap.size + 1, 0, none⟩) (byt (hd x i q)).length (4 * nlen x)) (byt (hd x i q)).length (u8s (byt (hd x i q))) ∧ Below (w.heap.size + 1) wb wr)
    case atStart => exact ⟨Nat.le_refl _, rfl, rfl, hown, hb⟩
    case round =>
     obtain ⟨hq, rfl, rfl, hown', hb'⟩ := hrel
     rcases gk with _ | k
     case succ =>
      have hc1 : wr.cell? ⟨g, i, none⟩ = some (.int .u32 (D x i : Nat)) := by
       rw [hb'.cell (p := ⟨g, i, none⟩) (by show g < w.heap.size + 1; omega), hbb.cell (p := ⟨g, i, none⟩) hg]
       exact Hcell.out i (by omega)
      have hd1 := D_lt' x i
      have hE := nb_int x i k (by omega)
      have hfit := byt_fit (hd_le x i k)
      have hnl : (byt (hd x i (k + 1))).length + 1 ≤ 1000000000 := by have := byt_fit (hd_le x i (k + 1)); omega
      by_cases hadd : hd x i (k + 1) ≠ 0 ∨ nb x i k ≠ 0
      ·have hsn := hd_snoc hadd
       have hL : (byt (hd x i (k + 1))).length + 1 ≤ 4 * nlen x := by rw [hsn] at hfit; simpa using hfit
       have Hsn := Lib.hid hsn
       obtain ⟨V, hV⟩ : ∃ V, byt (hd x i (k + 1)) = V := ⟨_, rfl⟩
       obtain ⟨b, hb1⟩ : ∃ b, nb x i k = b := ⟨_, rfl⟩
       have hadd2 : 0 < V.length ∨ b ≠ 0 := by
        rcases hadd with h | h
        ·left
         rw [← hV]
         have := mt byt_eq_nil.1 h
         exact List.length_pos_iff.2 this
        ·right; rw [← hb1]; exact h
       rw [hV] at hown' hL hnl Hsn ⊢
       rw [hb1] at hE Hsn
       clear hadd hsn hV hb1 hfit
       have hbl : b.toNat < 256 := b.toNat_lt
       by_cases hbz : b = 0
       ·have hb2 : ((b.toNat : Int) != 0) = false := by rw [hbz]; rfl
        have hVl : 0 < V.length := by rcases hadd2 with h | h; exact h; exact absurd hbz h
        clear hadd2 hbz
        go_wp2_with (at_builtin; refine wpList_append_fits _ rfl (.tmp 45) (.tmp 47) 96 rfl (w.heap.size + 1) 5 i0 1 Tryz.underlying96 hi0 hz1 (w.heap.size + 1) V.length (4 * nlen x) _ rfl (hown'.alloc _) ⟨wr.heap.size, 0, none⟩ 1 1 [.int .u8 (b.toNat : Nat)] rfl rfl (cell_one_new _ _ _) (by simp [Value.oneCell']) hL ?_; intro w1 hown1 hgrow1)
        go_roundg k
        case measure => omega
        case rel => exact num_rel _ Hsn.out (by omega) hbs hb' hown1 hgrow1
       ·have hb2 : ((b.toNat : Int) != 0) = true := by
         rw [bne_iff_ne]; intro h
         exact hbz (UInt8.toNat_inj.1 (by rw [show b.toNat = 0 by omega]; rfl))
        clear hadd2 hbz
        go_wp2_with (at_builtin; refine wpList_append_fits _ rfl (.tmp 45) (.tmp 47) 96 rfl (w.heap.size + 1) 5 i0 1 Tryz.underlying96 hi0 hz1 (w.heap.size + 1) V.length (4 * nlen x) _ rfl (hown'.alloc _) ⟨wr.heap.size, 0, none⟩ 1 1 [.int .u8 (b.toNat : Nat)] rfl rfl (cell_one_new _ _ _) (by simp [Value.oneCell']) hL ?_; intro w1 hown1 hgrow1)
        go_roundg k
        case measure => omega
        case rel => exact num_rel _ Hsn.out (by omega) hbs hb' hown1 hgrow1
      ·have h0 : hd x i (k + 1) = 0 ∧ nb x i k = 0 := by
        constructor
        ·exact Classical.byContradiction fun h => hadd (.inl h)
        ·exact Classical.byContradiction fun h => hadd (.inr h)
       have hz := hd_zero h0.1 h0.2
       rw [h0.1, byt_zero] at hown' ⊢
       rw [h0.2] at hE
       have Hz := Lib.hid hz
       clear hz h0 hadd hfit
       go_wp2
       go_roundg k
       case measure => omega
       case rel => exact ⟨by omega, by go_num, by rw [Hz.out, byt_zero], by rw [Hz.out, byt_zero]; exact hown', hb'⟩
     case zero =>
      go_wp2
      go_roundw
      case rel => exact ⟨i, by omega, by go_num, rfl, hown', hb'⟩
      case measure => simp [intOf] <;> omega
   ·obtain rfl : p = 0 := by omega
    have e : hd x 0 0 = x := by simp [hd]
    rw [e] at hown ⊢
    have hcv : Sem.run Tryz.prog (Go.convert 96 9 (.slice (some ⟨w.heap.size + 1, 0, none⟩) (byt x).length (4 * nlen x))) wr = .ok (.string (mg x)) wr := by
     have := run_convert_bytes_arg (P := Tryz.prog) wr 96 5 Tryz.underlying96 Tryz.underlying5 (w.heap.size + 1) 0 (byt x).length (4 * nlen x) ((byt x).map fun b => (b.toNat : Int)) (by simp) (fun i hi => by
      rw [Nat.zero_add, hown.cellAt i (by omega)]
      unfold u8s
      simp [hi]) 9 Tryz.underlying9
     rw [this, str_of_u8s]; rfl
    have c0 := (hb.cell (p := ⟨w.heap.size, 0, none⟩) (by show w.heap.size < w.heap.size + 1; omega)).trans hr0
    have c1 := (hb.cell (p := ⟨w.heap.size, 1, none⟩) (by show w.heap.size < w.heap.size + 1; omega)).trans hr1
    have f0 := (hb.frozen (p := ⟨w.heap.size, 0, none⟩) (by show w.heap.size < w.heap.size + 1; omega)).trans (Hf0.out 0)
    have f1 := (hb.frozen (p := ⟨w.heap.size, 1, none⟩) (by show w.heap.size < w.heap.size + 1; omega)).trans (Hf0.out 1)
    clear hown
    go_wp2
    refine bodyPost_ret (v := .agg #[.bool ng, .string (mg x)]) (by simp [results, Tryz.results40, go_sem, c0, c1]) rfl ?_
    have hxn : x ≠ 0 := fun e => h0 (by rw [e, nlen_zero])
    refine ⟨by rw [← Hx.out]; simp [sg, hxn], ?_⟩
    exact ((hbb.trans (hb.mono (by omega))).setCell (p := ⟨w.heap.size, 0, none⟩) (Nat.le_refl _) _).setCell (p := ⟨w.heap.size, 1, none⟩) (Nat.le_refl _) _
end Go.Proofs.Gv
