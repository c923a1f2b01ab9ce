/- Systematic words of a code of Varshamov and Tenengolts: plain laws. -/
import Derived.Test.YtjnlfmhckdijlaaVtN
set_option linter.unusedSimpArgs false
set_option linter.unusedVariables false
namespace Go.Proofs.Gv
/-- The sum of places. -/
def psum : Nat → List Bool → Nat
  | _, [] => 0
  | i, b :: l => (if b then i + 1 else 0) + psum (i + 1) l
theorem psum_eq : ∀ (l : List Bool) (i : Nat), psum i l = vtS l + i * l.count true
  | [], i => by simp [psum, vtS]
  | b :: l, i => by
    unfold psum
    rw [psum_eq l (i + 1)]
    show _ = ((b :: l).count true + vtS l) + i * (b :: l).count true
    have e : (i + 1) * l.count true = i * l.count true + l.count true := Nat.succ_mul _ _
    cases b with
    | true =>
      rw [List.count_cons_self, Nat.mul_add, if_pos rfl, e]
      omega
    | false =>
      rw [List.count_cons_of_ne (by decide), if_neg (by decide), e]
      omega
theorem vtS_psum (l : List Bool) : vtS l = psum 0 l := by rw [psum_eq, Nat.zero_mul, Nat.add_zero]
theorem psum_snoc : ∀ (l : List Bool) (i : Nat) (b : Bool), psum i (l ++ [b]) = psum i l + if b then i + l.length + 1 else 0
  | [], i, b => by simp [psum]
  | c :: l, i, b => by
    rw [List.cons_append]
    unfold psum
    rw [psum_snoc l (i + 1) b, List.length_cons, show i + 1 + l.length + 1 = i + (l.length + 1) + 1 by omega]
    omega
/-- Two words of a code are far apart. -/
theorem code_far {n : Nat} {x y : ByteArray} (hx : Bin x) (hy : Bin y) (sx : x.size = n) (sy : y.size = n) (h : syn x = syn y) (hne : x ≠ y) : lcsL x.data.toList y.data.toList + 2 ≤ n := by
  have hl := lcs_le x.data.toList y.data.toList
  have e1 := size_list x
  have e2 := size_list y
  by_cases hc : lcsL x.data.toList y.data.toList + 2 ≤ n
  · exact hc
  exfalso
  apply hne
  by_cases hn : lcsL x.data.toList y.data.toList = n
  · have := lcs_sub (u := x.data.toList) (v := y.data.toList) (by omega)
    exact ba_ext (this.eq_of_length (by omega))
  · obtain ⟨z, h1, h2, h3⟩ := lcs_real _ x.data.toList y.data.toList rfl
    unfold syn at h
    rw [sx, sy] at h
    exact bt_inj hx hy (vt_del (z := z.map (· == (49 : UInt8))) (by rw [bt_len, sx]) (by rw [bt_len, sy]) h (h1.map _) (h2.map _) (by rw [List.length_map]; omega))
end Go.Proofs.Gv
