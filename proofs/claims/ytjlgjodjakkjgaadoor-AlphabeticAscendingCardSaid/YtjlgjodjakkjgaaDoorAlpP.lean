/- Arguments that are slices of numbers, opened. -/
import Derived.Test.YtjlgjodjakkjgaaDoorHordP
import Derived.Test.YtjlgjodjakkjgaaDoorAcl
import Derived.Test.YtjlgjodjakkjgaaDoorHuf
set_option linter.unusedSimpArgs false
set_option linter.unusedVariables false
namespace Go.Proofs.Gv
open Go Go.RowKit Go.ChangeShapes Go.WideShapes Go.Deep

theorem cellsN : Tryd.prog.cellsOf 3 = 1 := by kernel_rfl
set_option maxRecDepth 100000 in
theorem open_Nums {H : Type} {enc : TypeId × Value → H} {W : World} {r : Reach} {b0 : Nat} {v : Value} {d : DataW H} {p : List MemPlace} (hval : Value.okWide Tryd.prog W r b0 22 v)
    (h : DataW.Trod enc Tryd.prog W 0 (fun _ => true) true 22 v d p) :
    ∃ (a : Option Addr) (L : List Int) (cap : Nat), v = .slice a L.length cap ∧ L.length ≤ cap ∧ cap ≤ maxLen ∧ (∀ x ∈ L, (Lit.int .i64 x).wf = true) ∧ NSl W a L ∧ (a = none → L = [] ∧ cap = 0) := by
  obtain ⟨a, len, cap, rfl⟩ := okWide_slice Tryd.underlying22 hval
  obtain ⟨fuel, hf⟩ := h
  rcases open_slice Tryd.underlying22 hf with ⟨hcs, -⟩ | ⟨A, len', cap', m, n, D, Pl, hcs, -, hl, hm, hmm, -, hi⟩
  · simp [Value.cells] at hcs
    obtain ⟨rfl, rfl, rfl⟩ := hcs
    exact ⟨none, [], 0, rfl, Nat.le_refl _, Nat.zero_le _, fun x hx => (by cases hx), fun i x hi => (by simp at hi), fun _ => ⟨rfl, rfl⟩⟩
  · simp [Value.cells] at hcs
    obtain ⟨rfl, rfl, rfl⟩ := hcs
    simp only [if_true] at hmm
    have key : ∀ i, i < len → ∃ x : Int, W.cell? (A.add i) = some (.int .i64 x) ∧ (Lit.int .i64 x).wf = true := fun i hil => by
      obtain ⟨cs', hc, t0⟩ := hi i (by omega)
      obtain ⟨n0, e0, -, w0⟩ := DataW.trod_int Tryd.underlying3 t0
      subst e0
      rw [cellsN] at hc
      obtain ⟨_, hcl, hat⟩ := World.cells?_some hc
      have h0 := hat 0 (by decide)
      refine ⟨n0, ?_, w0⟩
      rw [Nat.mul_one] at h0
      simpa [Addr.add] using h0
    obtain ⟨L, hL, hR⟩ := list_of key
    refine ⟨some A, L, cap, by rw [hL], by omega, by omega, fun x hx => ?_, fun i x hi => ⟨A, rfl, (hR i x hi).1⟩, fun e => (by cases e)⟩
    obtain ⟨i, hi⟩ := List.getElem?_of_mem hx
    exact (hR i x hi).2
end Go.Proofs.Gv

namespace Go.Proofs.Gv

/-- Words one behind the other: lengths and values; each begins where the last one ends, or behind. -/
def asc : List (Nat × Nat) → Prop
  | [] => True
  | [x] => x.2 < 2 ^ x.1
  | x :: y :: r => x.2 < 2 ^ x.1 ∧ (x.2 + 1) * 2 ^ y.1 ≤ y.2 * 2 ^ x.1 ∧ asc (y :: r)
theorem p2 (n : Nat) : 0 < 2 ^ n := Nat.pow_pos (by decide)
/-- The least cost of an ordered tree over the weights, and the depths of the first one. -/
def minK (c : Nat → Nat) : Nat → Nat × Nat
  | 0 => (0, c 0)
  | k + 1 => if c (k + 1) < (minK c k).2 then (k + 1, c (k + 1)) else minK c k
theorem minK_spec (c : Nat → Nat) : ∀ k, (minK c k).1 ≤ k ∧ (minK c k).2 = c (minK c k).1 ∧ (∀ j, j ≤ k → (minK c k).2 ≤ c j) ∧ ∀ j, j < (minK c k).1 → (minK c k).2 < c j
  | 0 => by
    refine ⟨Nat.le_refl _, rfl, fun j hj => ?_, fun j hj => absurd hj (Nat.not_lt_zero _)⟩
    obtain rfl : j = 0 := by omega
    exact Nat.le_refl _
  | k + 1 => by
    obtain ⟨h1, h2, h3, h4⟩ := minK_spec c k
    unfold minK
    split
    · rename_i hlt
      refine ⟨Nat.le_refl _, rfl, fun j hj => ?_, fun j hj => ?_⟩
      · rcases Nat.lt_or_ge j (k + 1) with h | h
        · have := h3 j (by omega); show c (k + 1) ≤ c j; omega
        · have : j = k + 1 := by omega
          subst this; exact Nat.le_refl _
      · have := h3 j (by have : j < k + 1 := hj; omega)
        show c (k + 1) < c j
        omega
    · rename_i hge
      refine ⟨by omega, h2, fun j hj => ?_, h4⟩
      rcases Nat.lt_or_ge j (k + 1) with h | h
      · exact h3 j (by omega)
      · have : j = k + 1 := by omega
        subst this; omega
/-- cost and depths: the split is behind the first k + 1 weights -/
def alC : Nat → List Nat → Nat
  | 0, _ => 0
  | f + 1, W => if W.length ≤ 1 then 0 else W.sum + (minK (fun k => alC f (W.take (k + 1)) + alC f (W.drop (k + 1))) (W.length - 2)).2
def alK (f : Nat) (W : List Nat) : Nat := (minK (fun k => alC f (W.take (k + 1)) + alC f (W.drop (k + 1))) (W.length - 2)).1
def alD : Nat → List Nat → List Nat
  | 0, _ => [0]
  | f + 1, W => if W.length ≤ 1 then [0] else (alD f (W.take (alK f W + 1))).map (· + 1) ++ (alD f (W.drop (alK f W + 1))).map (· + 1)
theorem alC_fuel : ∀ (f g : Nat) (W : List Nat), W.length ≤ f → W.length ≤ g → alC f W = alC g W
  | 0, g, W, h, _ => by
    cases g with
    | zero => rfl
    | succ g => simp only [alC]; rw [if_pos (by omega)]
  | f + 1, g, W, h, hg => by
    cases g with
    | zero => simp only [alC]; rw [if_pos (by omega)]
    | succ g =>
      simp only [alC]
      split
      · rfl
      · rename_i h1
        have e : ∀ k, k ≤ W.length - 2 → alC f (W.take (k + 1)) + alC f (W.drop (k + 1)) = alC g (W.take (k + 1)) + alC g (W.drop (k + 1)) := fun k hk => by
          rw [alC_fuel f g _ (by rw [List.length_take]; omega) (by rw [List.length_take]; omega), alC_fuel f g _ (by rw [List.length_drop]; omega) (by rw [List.length_drop]; omega)]
        have : ∀ (c d : Nat → Nat) (n : Nat), (∀ k, k ≤ n → c k = d k) → minK c n = minK d n := fun c d n => by
          induction n with
          | zero => intro h; simp [minK, h 0 (Nat.le_refl _)]
          | succ n ih => intro h; simp only [minK]; rw [ih fun k hk => h k (by omega), h (n + 1) (Nat.le_refl _)]
        rw [this _ _ _ e]
/-- The least cost. -/
def alc (W : List Nat) : Nat := alC W.length W
theorem alc_one {W : List Nat} (h : W.length ≤ 1) : alc W = 0 := by
  unfold alc
  cases hW : W.length with
  | zero => rfl
  | succ n => simp only [alC]; rw [if_pos h]
def spl (W : List Nat) (k : Nat) : Nat := alc (W.take (k + 1)) + alc (W.drop (k + 1))
theorem spl_eq {f : Nat} {W : List Nat} (hf : W.length ≤ f + 1) {k : Nat} (hk : k ≤ W.length - 2) (h1 : ¬ W.length ≤ 1) : alC f (W.take (k + 1)) + alC f (W.drop (k + 1)) = spl W k := by
  unfold spl alc
  rw [alC_fuel f (W.take (k + 1)).length _ (by rw [List.length_take]; omega) (Nat.le_refl _), alC_fuel f (W.drop (k + 1)).length _ (by rw [List.length_drop]; omega) (Nat.le_refl _)]
theorem minK_congr {c d : Nat → Nat} : ∀ {n : Nat}, (∀ k, k ≤ n → c k = d k) → minK c n = minK d n
  | 0, h => by simp [minK, h 0 (Nat.le_refl _)]
  | n + 1, h => by simp only [minK]; rw [minK_congr fun k hk => h k (by omega), h (n + 1) (Nat.le_refl _)]
theorem alc_more {W : List Nat} (h : ¬ W.length ≤ 1) : alc W = W.sum + (minK (spl W) (W.length - 2)).2 := by
  unfold alc
  obtain ⟨n, hn⟩ : ∃ n, W.length = n + 1 := ⟨W.length - 1, by omega⟩
  conv => lhs; rw [hn]; unfold alC
  rw [if_neg h, minK_congr fun k hk => spl_eq (f := n) (by omega) hk h]
theorem alK_eq {f : Nat} {W : List Nat} (hf : W.length ≤ f + 1) (h : ¬ W.length ≤ 1) : alK f W = (minK (spl W) (W.length - 2)).1 := by
  unfold alK
  rw [minK_congr fun k hk => spl_eq (f := f) hf hk h]
theorem alc_le {W : List Nat} (h : ¬ W.length ≤ 1) {k : Nat} (h1 : 1 ≤ k) (h2 : k < W.length) : alc W ≤ W.sum + (alc (W.take k) + alc (W.drop k)) := by
  rw [alc_more h]
  have := (minK_spec (spl W) (W.length - 2)).2.2.1 (k - 1) (by omega)
  unfold spl at this
  rw [show k - 1 + 1 = k by omega] at this
  exact Nat.add_le_add_left this _
/-- Words that ascend, split by their first letters. -/
theorem asc_bound : ∀ (p : List (Nat × Nat)), asc p → ∀ x ∈ p, x.2 < 2 ^ x.1
  | [], _, x, h => by cases h
  | [y], ha, x, h => by rw [List.mem_singleton.1 h]; exact ha
  | y :: z :: r, ha, x, h => by
    rcases List.mem_cons.1 h with rfl | h
    · exact ha.1
    · exact asc_bound (z :: r) ha.2.2 x h
/-- Each later word begins behind the end of the first. -/
theorem asc_far : ∀ (r : List (Nat × Nat)) (x : Nat × Nat), asc (x :: r) → ∀ y ∈ r, (x.2 + 1) * 2 ^ y.1 ≤ y.2 * 2 ^ x.1
  | [], _, _, _, h => by cases h
  | z :: r, x, ha, y, h => by
    obtain ⟨h1, h2, h3⟩ := ha
    rcases List.mem_cons.1 h with rfl | h
    · exact h2
    · have := asc_far r z h3 y h
      -- x ends before z, z before y
      have e1 : (x.2 + 1) * 2 ^ z.1 * 2 ^ y.1 ≤ z.2 * 2 ^ x.1 * 2 ^ y.1 := Nat.mul_le_mul_right _ h2
      have e2 : (z.2 + 1) * 2 ^ y.1 * 2 ^ x.1 ≤ y.2 * 2 ^ z.1 * 2 ^ x.1 := Nat.mul_le_mul_right _ this
      have e3 : (x.2 + 1) * 2 ^ y.1 * 2 ^ z.1 ≤ y.2 * 2 ^ x.1 * 2 ^ z.1 := by
        have a1 : (x.2 + 1) * 2 ^ y.1 * 2 ^ z.1 = (x.2 + 1) * 2 ^ z.1 * 2 ^ y.1 := by ac_rfl
        have a2 : y.2 * 2 ^ x.1 * 2 ^ z.1 = y.2 * 2 ^ z.1 * 2 ^ x.1 := by ac_rfl
        have a3 : z.2 * 2 ^ x.1 * 2 ^ y.1 = z.2 * 2 ^ y.1 * 2 ^ x.1 := by ac_rfl
        rw [a1, a2]
        rw [a3] at e1
        have : z.2 * 2 ^ y.1 * 2 ^ x.1 ≤ (z.2 + 1) * 2 ^ y.1 * 2 ^ x.1 := Nat.mul_le_mul_right _ (Nat.mul_le_mul_right _ (by omega))
        omega
      exact Nat.le_of_mul_le_mul_right e3 (p2 _)
theorem asc_tail {x : Nat × Nat} {r : List (Nat × Nat)} (h : asc (x :: r)) : asc r := by
  cases r with
  | nil => trivial
  | cons y r => exact h.2.2
theorem asc_cons {x : Nat × Nat} {r : List (Nat × Nat)} (hx : x.2 < 2 ^ x.1) (hr : asc r) (hf : ∀ y ∈ r, (x.2 + 1) * 2 ^ y.1 ≤ y.2 * 2 ^ x.1) : asc (x :: r) := by
  cases r with
  | nil => exact hx
  | cons y r => exact ⟨hx, hf y (List.mem_cons_self ..), hr⟩
theorem asc_map (f : Nat × Nat → Nat × Nat) (P : Nat × Nat → Prop) (h1 : ∀ x, P x → x.2 < 2 ^ x.1 → (f x).2 < 2 ^ (f x).1) (h2 : ∀ x y, P x → P y → (x.2 + 1) * 2 ^ y.1 ≤ y.2 * 2 ^ x.1 → ((f x).2 + 1) * 2 ^ (f y).1 ≤ (f y).2 * 2 ^ (f x).1) :
    ∀ p : List (Nat × Nat), (∀ x ∈ p, P x) → asc p → asc (p.map f)
  | [], _, _ => trivial
  | x :: r, hP, ha => by
    rw [List.map_cons]
    refine asc_cons (h1 x (hP x (List.mem_cons_self ..)) (asc_bound _ ha x (List.mem_cons_self ..))) (asc_map f P h1 h2 r (fun y hy => hP y (List.mem_cons_of_mem _ hy)) (asc_tail ha)) fun y hy => ?_
    obtain ⟨z, hz, rfl⟩ := List.mem_map.1 hy
    exact h2 x z (hP x (List.mem_cons_self ..)) (hP z (List.mem_cons_of_mem _ hz)) (asc_far r x ha z hz)
end Go.Proofs.Gv
