/- Borders of a word, by positions: plain Lean. -/
import Derived.Test.YtlaakomeofldgaaProg
import Derived.Lib.IndexMore
namespace Go.Proofs.Gv

/-- 'k' is the length of a proper border of the first 'i' letters. -/
def Bd (f : Nat → UInt8) (i k : Nat) : Prop := k < i ∧ ∀ j, j < k → f j = f (i - k + j)
/-- 'b' is the greatest of them. -/
def MB (f : Nat → UInt8) (i b : Nat) : Prop := Bd f i b ∧ ∀ k, Bd f i k → k ≤ b

theorem Bd.trans {f : Nat → UInt8} {i b k : Nat} (h1 : Bd f i b) (h2 : Bd f b k) : Bd f i k := by
  obtain ⟨a1, a2⟩ := h1; obtain ⟨b1, b2⟩ := h2
  refine ⟨by omega, fun j hj => ?_⟩
  rw [b2 j hj, a2 (b - k + j) (by omega)]
  congr 1; omega
theorem Bd.sub {f : Nat → UInt8} {i b k : Nat} (h1 : Bd f i b) (h2 : Bd f i k) (h : k < b) : Bd f b k := by
  obtain ⟨a1, a2⟩ := h1; obtain ⟨b1, b2⟩ := h2
  refine ⟨h, fun j hj => ?_⟩
  rw [b2 j hj, a2 (b - k + j) (by omega)]
  congr 1; omega
theorem Bd.succ {f : Nat → UInt8} {i k : Nat} : Bd f (i + 1) (k + 1) ↔ Bd f i k ∧ f k = f i := by
  constructor
  · rintro ⟨a1, a2⟩
    refine ⟨⟨by omega, fun j hj => ?_⟩, ?_⟩
    · rw [a2 j (by omega)]; congr 1; omega
    · rw [a2 k (by omega)]; congr 1; omega
  · rintro ⟨⟨a1, a2⟩, h⟩
    refine ⟨by omega, fun j hj => ?_⟩
    by_cases e : j = k
    · subst e; rw [h]; congr 1; omega
    · rw [a2 j (by omega)]; congr 1; omega
theorem MB.one (f : Nat → UInt8) : MB f 1 0 := ⟨⟨by omega, fun j hj => by omega⟩, fun k hk => by have := hk.1; omega⟩
theorem MB.unique {f : Nat → UInt8} {i a b : Nat} (h1 : MB f i a) (h2 : MB f i b) : a = b :=
  Nat.le_antisymm (h2.2 _ h1.1) (h1.2 _ h2.1)
theorem MB.exists (f : Nat → UInt8) (i : Nat) (h : 0 < i) : ∃ b, MB f i b := by
  have key : ∀ m, m < i → (∃ b, MB f i b) ∨ ∀ k, Bd f i k → i ≤ k + m + 1 → False := by
    intro m
    induction m with
    | zero =>
      intro _
      by_cases hb : Bd f i (i - 1)
      · exact .inl ⟨i - 1, hb, fun k hk => by have := hk.1; omega⟩
      · right; intro k hk hm
        have := hk.1
        exact hb (by rw [show i - 1 = k by omega]; exact hk)
    | succ m ih =>
      intro hm
      rcases ih (by omega) with h | h
      · exact .inl h
      · by_cases hb : Bd f i (i - (m + 1) - 1)
        · exact .inl ⟨_, hb, fun k hk => by
            rcases Nat.lt_or_ge k (i - (m + 1)) with h1 | h1
            · omega
            · exact (h k hk (by omega)).elim⟩
        · right; intro k hk hm'
          by_cases e : k = i - (m + 1) - 1
          · subst e; exact hb hk
          · exact h k hk (by omega)
  rcases key (i - 1) (by omega) with h1 | h1
  · exact h1
  · exact (h1 0 ⟨h, fun j hj => by omega⟩ (by omega)).elim

open Classical in
/-- The length of the longest proper border of the first 'i' letters (0 of none). -/
noncomputable def mb (f : Nat → UInt8) (i : Nat) : Nat := if h : ∃ b, MB f i b then Classical.choose h else 0
theorem mb_MB (f : Nat → UInt8) {i : Nat} (h : 0 < i) : MB f i (mb f i) := by
  unfold mb; rw [dif_pos (MB.exists f i h)]; exact Classical.choose_spec _
theorem mb_zero (f : Nat → UInt8) : mb f 0 = 0 := by
  unfold mb; rw [dif_neg]; rintro ⟨b, hb, _⟩; have := hb.1; omega
theorem mb_eq {f : Nat → UInt8} {i b : Nat} (h : MB f i b) : mb f i = b :=
  (mb_MB f (by have := h.1.1; omega)).unique h
theorem mb_one (f : Nat → UInt8) : mb f 1 = 0 := mb_eq (MB.one f)
theorem mb_lt (f : Nat → UInt8) {i : Nat} (h : 0 < i) : mb f i < i := (mb_MB f h).1.1

/-- While a border is sought: 'k' is a border of the first 'i', and no candidate is greater. -/
def Fall (f : Nat → UInt8) (i k : Nat) : Prop := Bd f i k ∧ ∀ m, Bd f (i + 1) (m + 1) → m ≤ k
theorem Fall.start (f : Nat → UInt8) {i : Nat} (h : 0 < i) : Fall f i (mb f i) :=
  ⟨(mb_MB f h).1, fun m hm => (mb_MB f h).2 _ (Bd.succ.mp hm).1⟩
theorem Fall.next {f : Nat → UInt8} {i k : Nat} (h : Fall f i k) (hk : 0 < k) (hn : f k ≠ f i) : Fall f i (mb f k) := by
  refine ⟨h.1.trans (mb_MB f hk).1, fun m hm => ?_⟩
  have h1 := h.2 m hm
  obtain ⟨h2, h3⟩ := Bd.succ.mp hm
  have hlt : m < k := by
    rcases Nat.lt_or_ge m k with g | g
    · exact g
    · have : m = k := by omega
      subst this; exact (hn h3).elim
  exact (mb_MB f hk).2 _ (h.1.sub h2 hlt)
theorem Fall.hit {f : Nat → UInt8} {i k : Nat} (h : Fall f i k) (hn : f k = f i) : mb f (i + 1) = k + 1 := by
  refine mb_eq ⟨Bd.succ.mpr ⟨h.1, hn⟩, fun m hm => ?_⟩
  rcases m with _ | m
  · omega
  · have := h.2 m hm; omega
theorem Fall.miss {f : Nat → UInt8} {i : Nat} (h : Fall f i 0) (hn : f 0 ≠ f i) : mb f (i + 1) = 0 := by
  refine mb_eq ⟨⟨by omega, fun j hj => by omega⟩, fun m hm => ?_⟩
  rcases m with _ | m
  · omega
  · have h1 := h.2 m hm
    have : m = 0 := by omega
    subst this
    exact (hn (Bd.succ.mp hm).2).elim
theorem Fall.le {f : Nat → UInt8} {i k : Nat} (h : Fall f i k) : k < i := h.1.1
end Go.Proofs.Gv

namespace Go.Proofs.Gv
open Go

/-- The offsets below n at which u occurs in s. -/
def occL (s u : List UInt8) (n : Nat) : List Nat := (List.range n).filter (Lib.occAt s u)
theorem occL_succ_hit {s u : List UInt8} {n : Nat} (h : Lib.occAt s u n = true) : occL s u (n + 1) = occL s u n ++ [n] := by
  unfold occL; rw [List.range_succ, List.filter_append]; simp [h]
theorem occL_succ_miss {s u : List UInt8} {n : Nat} (h : Lib.occAt s u n = false) : occL s u (n + 1) = occL s u n := by
  unfold occL; rw [List.range_succ, List.filter_append]; simp [h]
theorem occL_skip {s u : List UInt8} {n : Nat} (d : Nat) (h : ∀ j, n ≤ j → j < n + d → Lib.occAt s u j = false) : occL s u (n + d) = occL s u n := by
  induction d with
  | zero => rfl
  | succ d ih => rw [show n + (d + 1) = (n + d) + 1 by omega, occL_succ_miss (h _ (by omega) (by omega)), ih (fun j a b => h j a (by omega))]
theorem occL_length (s u : List UInt8) (n : Nat) : (occL s u n).length ≤ n := by
  unfold occL; exact Nat.le_trans (List.length_filter_le _ _) (by simp)
theorem occAt_room {s u : List UInt8} {i : Nat} (h : Lib.occAt s u i = true) (hi : i ≤ s.length) : i + u.length ≤ s.length := by
  unfold Lib.occAt at h
  have := (List.isPrefixOf_iff_prefix.mp h).length_le
  rw [List.length_drop] at this
  omega
theorem occAt_drop (s u : List UInt8) (i j : Nat) : Lib.occAt (s.drop i) u j = Lib.occAt s u (i + j) := by
  unfold Lib.occAt; rw [List.drop_drop]
/-- The next one, from n on. -/
theorem occ_next {s u : List UInt8} {n : Nat} (hn : n ≤ s.length) :
    (Lib.index (s.drop n) u = -1 ∧ occL s u (s.length + 1) = occL s u n) ∨
    (∃ i : Nat, Lib.index (s.drop n) u = i ∧ n + i ≤ s.length ∧ occL s u (n + i + 1) = occL s u n ++ [n + i]) := by
  rcases Lib.index_spec (s.drop n) u with ⟨h1, h2⟩ | ⟨i, h1, h2, h3, h4⟩
  · refine .inl ⟨h1, ?_⟩
    rw [show s.length + 1 = n + (s.length + 1 - n) by omega]
    refine occL_skip _ fun j a b => ?_
    have := h2 (j - n) (by rw [List.length_drop]; omega)
    rwa [occAt_drop, show n + (j - n) = j by omega] at this
  · refine .inr ⟨i, h1, by rw [List.length_drop] at h2; omega, ?_⟩
    rw [occAt_drop] at h3
    rw [occL_succ_hit h3, occL_skip]
    intro j a b
    have := h4 (j - n) (by omega)
    rwa [occAt_drop, show n + (j - n) = j by omega] at this
/-- From n on there is no room. -/
theorem occ_end {s u : List UInt8} {n : Nat} (h : s.length < n + u.length) (hn : n ≤ s.length + 1) : occL s u (s.length + 1) = occL s u n := by
  rw [show s.length + 1 = n + (s.length + 1 - n) by omega]
  refine occL_skip _ fun j a b => ?_
  rw [Bool.eq_false_iff]
  intro hj
  have := occAt_room hj (by omega)
  omega
end Go.Proofs.Gv
