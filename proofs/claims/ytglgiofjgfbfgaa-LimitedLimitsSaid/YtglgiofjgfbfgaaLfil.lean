/- limited: the rows of the table while they are filled. -/
import Derived.Test.YtglgiofjgfbfgaaLtabP
set_option linter.unusedSimpArgs false
set_option linter.unusedVariables false
namespace Go.Proofs.Gv
open Go Go.RowKit Go.Maps

theorem inV_set9 : ∀ (R : List (Bool × ByteArray)) (k : Nat) (b : Bool) (s : ByteArray), k < R.length → ((inV R).set (k * 2) (.bool b)).set (k * 2 + 1) (.string s) = inV (R.set k (b, s))
  | [], k, b, s, h => by simp at h
  | x :: r, 0, b, s, _ => by simp [inV]
  | x :: r, k + 1, b, s, h => by
    have ih := inV_set9 r k b s (by simpa using h)
    have e1 : (k + 1) * 2 = k * 2 + 1 + 1 := by omega
    rw [e1]
    simp only [inV, List.set_cons_succ]
    rw [← ih]
theorem inV_at9 : ∀ (R : List (Bool × ByteArray)) (k : Nat) (b : Bool) (s : ByteArray), R[k]? = some (b, s) → (inV R)[k * 2]? = some (.bool b) ∧ (inV R)[k * 2 + 1]? = some (.string s)
  | [], k, b, s, h => by simp at h
  | x :: r, 0, b, s, h => by
    simp at h
    subst h
    exact ⟨rfl, rfl⟩
  | x :: r, k + 1, b, s, h => by
    obtain ⟨h1, h2⟩ := inV_at9 r k b s (by simpa using h)
    have e1 : (k + 1) * 2 = k * 2 + 1 + 1 := by omega
    rw [e1]
    simp only [inV, List.getElem?_cons_succ]
    exact ⟨h1, h2⟩
/-- A row of cells by its values. -/
def rwF (n : Nat) (f : Nat → Bool × ByteArray) : List (Bool × ByteArray) := (List.range n).map f
theorem rwF_len (n : Nat) (f : Nat → Bool × ByteArray) : (rwF n f).length = n := by unfold rwF; rw [List.length_map, List.length_range]
theorem rwF_at {n k : Nat} (f : Nat → Bool × ByteArray) (h : k < n) : (rwF n f)[k]? = some (f k) := by unfold rwF; rw [List.getElem?_map, List.getElem?_range h]; rfl
theorem rwF_set {n k : Nat} {f g : Nat → Bool × ByteArray} (hk : k < n) (h : ∀ j, j ≠ k → f j = g j) : (rwF n f).set k (g k) = rwF n g := by
  apply List.ext_getElem?
  intro j
  rw [List.getElem?_set]
  by_cases hj : k = j
  · subst hj
    rw [if_pos rfl, rwF_len, if_pos hk, rwF_at g hk]
  · rw [if_neg hj]
    by_cases hjn : j < n
    · rw [rwF_at f hjn, rwF_at g hjn, h j (fun e => hj e.symm)]
    · rw [List.getElem?_eq_none (by rw [rwF_len]; omega), List.getElem?_eq_none (by rw [rwF_len]; omega)]
theorem rwF_congr {n : Nat} {f g : Nat → Bool × ByteArray} (h : ∀ k, k < n → f k = g k) : rwF n f = rwF n g := List.map_congr_left fun k hk => h k (List.mem_range.1 hk)
/-- New rows hold zeros. -/
theorem madeF (n : Nat) : (madeCells #[.bool false, .string ⟨#[]⟩] (n * 2)).toList = inV (rwF n fun _ => (false, ⟨#[]⟩)) := by
  apply List.ext_getElem?
  intro j
  by_cases hj : j < n * 2
  · have e1 : (madeCells #[.bool false, .string ⟨#[]⟩] (n * 2)).toList[j]? = some ((#[.bool false, .string ⟨#[]⟩] : Array Value)[j % 2]!) := by simp [madeCells, hj]
    rw [e1]
    obtain ⟨h0, h1⟩ := inV_at9 (rwF n fun _ => (false, ⟨#[]⟩)) (j / 2) _ _ (rwF_at _ (by omega))
    rcases Nat.mod_two_eq_zero_or_one j with h | h
    · have : j = j / 2 * 2 := by omega
      rw [this, h0, show j / 2 * 2 % 2 = 0 by omega]; rfl
    · have : j = j / 2 * 2 + 1 := by omega
      rw [this, h1, show (j / 2 * 2 + 1) % 2 = 1 by omega]; rfl
  · rw [List.getElem?_eq_none (by simp [madeCells]; omega), List.getElem?_eq_none (by rw [inV_len, rwF_len]; omega)]
/-- The sums, from place i on. -/
def smF (O : List Nat) (i k : Nat) : Bool × ByteArray := (false, mg (if i ≤ k then (O.drop k).sum else 0))
theorem smF_start {O : List Nat} {n : Nat} (h : O.length = n) : (rwF (n + 1) fun _ => ((false, ⟨#[]⟩) : Bool × ByteArray)) = rwF (n + 1) (smF O n) := rwF_congr fun k hk => by
  unfold smF
  by_cases hkn : n ≤ k
  · rw [if_pos hkn, List.drop_of_length_le (by omega)]
    show _ = (false, mg 0)
    rw [mg_zero]
  · rw [if_neg hkn, mg_zero]
theorem smF_step (O : List Nat) {n i : Nat} (hi : i < n) : (rwF (n + 1) (smF O (i + 1))).set i (false, mg ((O.drop i).sum)) = rwF (n + 1) (smF O i) := by
  have e : (false, mg ((O.drop i).sum)) = smF O i i := by unfold smF; rw [if_pos (Nat.le_refl _)]
  rw [e]
  refine rwF_set (by omega) fun j hj => ?_
  unfold smF
  by_cases h : i + 1 ≤ j
  · rw [if_pos h, if_pos (by omega)]
  · rw [if_neg h, if_neg (by omega)]
/-- The first q numbers of a row of the table. -/
def tbF (O : List Nat) (n r q0 q : Nat) : Bool × ByteArray := if q < q0 then (oB (tb O n r (q / (n + 1)) (q % (n + 1))), oS (tb O n r (q / (n + 1)) (q % (n + 1)))) else (false, ⟨#[]⟩)
theorem div_at {n k i : Nat} (hi : i ≤ n) : (k * (n + 1) + i) / (n + 1) = k ∧ (k * (n + 1) + i) % (n + 1) = i := by
  constructor
  · rw [Nat.mul_comm, Nat.mul_add_div (by omega), Nat.div_eq_of_lt (by omega), Nat.add_zero]
  · rw [Nat.mul_comm, Nat.mul_add_mod, Nat.mod_eq_of_lt (by omega)]
theorem tbF_step (O : List Nat) {n r k i N : Nat} (hi : i ≤ n) (hN : k * (n + 1) + i < N) : (rwF N (tbF O n r (k * (n + 1) + i))).set (k * (n + 1) + i) (oB (tb O n r k i), oS (tb O n r k i)) = rwF N (tbF O n r (k * (n + 1) + i + 1)) := by
  obtain ⟨d1, d2⟩ := div_at (k := k) hi
  have e : (oB (tb O n r k i), oS (tb O n r k i)) = tbF O n r (k * (n + 1) + i + 1) (k * (n + 1) + i) := by
    unfold tbF
    rw [if_pos (by omega), d1, d2]
  rw [e]
  refine rwF_set hN fun j hj => ?_
  unfold tbF
  by_cases h : j < k * (n + 1) + i
  · rw [if_pos h, if_pos (by omega)]
  · rw [if_neg h, if_neg (by omega)]
theorem tbF_skip (O : List Nat) (n r k N : Nat) : rwF N (tbF O n r (k * (n + 1) + n)) = rwF N (tbF O n r ((k + 1) * (n + 1))) := rwF_congr fun j _ => by
  obtain ⟨d1, d2⟩ := div_at (n := n) (k := k) (Nat.le_refl n)
  have e : (k + 1) * (n + 1) = k * (n + 1) + n + 1 := by rw [Nat.add_mul]; omega
  rw [e]
  unfold tbF
  by_cases h : j < k * (n + 1) + n
  · rw [if_pos h, if_pos (by omega)]
  · rw [if_neg h]
    by_cases h2 : j = k * (n + 1) + n
    · subst h2
      rw [if_pos (by omega), d1, d2, tb_end]
      show _ = (false, mg 0)
      rw [mg_zero]
    · rw [if_neg (by omega)]
theorem tbF_start (O : List Nat) (n r N : Nat) : (rwF N fun _ => ((false, ⟨#[]⟩) : Bool × ByteArray)) = rwF N (tbF O n r 0) := rwF_congr fun j _ => by unfold tbF; rw [if_neg (by omega)]
theorem RowT.of {W : World} {g n r : Nat} {O : List Nat} (h : BC W g (inV (rwF ((n + 1) * (n + 1)) (tbF O n r ((n + 1) * (n + 1)))))) : RowT W g O n r := fun k i hk hi => by
  have hq := plc_le hk hi
  obtain ⟨d1, d2⟩ := div_at (k := k) hi
  have e := rwF_at (tbF O n r ((n + 1) * (n + 1))) hq
  unfold tbF at e
  rw [if_pos hq, d1, d2] at e
  obtain ⟨h0, h1⟩ := inV_at9 _ _ _ _ e
  exact ⟨h.at _ _ h0, h.at _ _ h1⟩
theorem SumT.of {W : World} {s n : Nat} {O : List Nat} (h : BC W s (inV (rwF (n + 1) (smF O 0)))) : SumT W s O n := fun i hi => by
  have e := rwF_at (smF O 0) (show i < n + 1 by omega)
  unfold smF at e
  rw [if_pos (Nat.zero_le _)] at e
  obtain ⟨h0, h1⟩ := inV_at9 _ _ _ _ e
  exact ⟨h.at _ _ h0, h.at _ _ h1⟩
theorem RowT.byGrown {W W' : World} {g n r : Nat} {O : List Nat} {row : Option Nat} (h : RowT W g O n r) (hg : W.grownBy W' row) (hr : row ≠ some g) : RowT W' g O n r := fun k i hk hi => by
  obtain ⟨c0, c1⟩ := h k i hk hi
  exact ⟨(World.cell?_of_block (hg.block _ (World.block_lt_of_cell? _ _ c0) (fun e => hr e.symm))).trans c0, (World.cell?_of_block (hg.block _ (World.block_lt_of_cell? _ _ c1) (fun e => hr e.symm))).trans c1⟩
theorem SumT.byGrown {W W' : World} {s n : Nat} {O : List Nat} {row : Option Nat} (h : SumT W s O n) (hg : W.grownBy W' row) (hr : row ≠ some s) : SumT W' s O n := fun i hi => by
  obtain ⟨c0, c1⟩ := h i hi
  exact ⟨(World.cell?_of_block (hg.block _ (World.block_lt_of_cell? _ _ c0) (fun e => hr e.symm))).trans c0, (World.cell?_of_block (hg.block _ (World.block_lt_of_cell? _ _ c1) (fun e => hr e.symm))).trans c1⟩
theorem tb_le (O : List Nat) (n : Nat) : ∀ r k i x, tb O n r k i = some x → x ≤ r * O.sum
  | 0, k, i, x, h => by
    unfold tb at h
    split at h
    · split at h
      · cases h
      · cases h; omega
    · cases h; omega
  | r + 1, k, i, x, h => by
    by_cases hin : i < n
    · rw [tb_succ O hin] at h
      obtain ⟨p, h1, h2⟩ := leastF_at (f := plc O n r k i) (min k (n - i) + 1) (by omega)
      rw [h] at h2
      unfold plc at h2
      cases hy : tb O n r (min (2 * (k - p)) n) (i + p) with
      | none => rw [hy] at h2; cases h2
      | some y =>
        rw [hy] at h2
        have e : (O.drop (i + p)).sum + y = x := by simpa using h2
        have hyy := tb_le O n r _ _ y hy
        have := List.take_append_drop (i + p) O
        have h3 := congrArg List.sum this
        rw [List.sum_append] at h3
        rw [Nat.add_mul, Nat.one_mul]
        omega
    · unfold tb at h
      rw [if_neg hin] at h
      cases h
      omega
end Go.Proofs.Gv
