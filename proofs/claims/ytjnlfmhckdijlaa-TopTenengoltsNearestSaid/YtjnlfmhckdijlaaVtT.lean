/- The table of the longest common subsequences: plain laws. -/
import Derived.Test.YtjnlfmhckdijlaaVtS
set_option linter.unusedSimpArgs false
set_option linter.unusedVariables false
namespace Go.Proofs.Gv
theorem lcs_step {u v : List UInt8} {i k : Nat} (hi : i < u.length) (hk : k < v.length) : lcsL (u.drop i) (v.drop k) = if u[i] = v[k] then lcsL (u.drop (i + 1)) (v.drop (k + 1)) + 1 else max (lcsL (u.drop (i + 1)) (v.drop k)) (lcsL (u.drop i) (v.drop (k + 1))) := by
  rw [List.drop_eq_getElem_cons hi, List.drop_eq_getElem_cons hk, lcsL]
theorem lcs_end {u v : List UInt8} {i k : Nat} (h : i = u.length ∨ k = v.length) : lcsL (u.drop i) (v.drop k) = 0 := by
  rcases h with h | h
  · rw [h, List.drop_length, lcsL]
  · rw [h, List.drop_length, lcs_nil]
/-- Each place of the table holds nothing, or the length and one. -/
structure TI (u v : List UInt8) (T : List Nat) : Prop where
  len : T.length = (u.length + 1) * (v.length + 1)
  at_ : ∀ i k, i ≤ u.length → k ≤ v.length → T[i * (v.length + 1) + k]? = some 0 ∨ T[i * (v.length + 1) + k]? = some (lcsL (u.drop i) (v.drop k) + 1)
theorem place_lt {a b i k : Nat} (hi : i ≤ a) (hk : k ≤ b) : i * (b + 1) + k < (a + 1) * (b + 1) := by
  have h := Nat.mul_le_mul_right (b + 1) hi
  rw [Nat.succ_mul]
  omega
theorem place_inj {b i k i' k' : Nat} (hk : k ≤ b) (hk' : k' ≤ b) (h : i * (b + 1) + k = i' * (b + 1) + k') : i = i' ∧ k = k' := by
  have e : ∀ x y, y ≤ b → (x * (b + 1) + y) / (b + 1) = x := fun x y hy => by
    rw [Nat.mul_comm, Nat.mul_add_div (by omega), Nat.div_eq_of_lt (by omega), Nat.add_zero]
  have h1 : i = i' := by
    have := congrArg (· / (b + 1)) h
    rwa [e i k hk, e i' k' hk'] at this
  subst h1
  exact ⟨rfl, by omega⟩
theorem TI.start (u v : List UInt8) : TI u v (List.replicate ((u.length + 1) * (v.length + 1)) 0) where
  len := List.length_replicate
  at_ := fun i k hi hk => .inl (by rw [List.getElem?_replicate, if_pos (place_lt hi hk)])
theorem TI.put {u v : List UInt8} {T : List Nat} (h : TI u v T) {i k : Nat} (hi : i ≤ u.length) (hk : k ≤ v.length) : TI u v (T.set (i * (v.length + 1) + k) (lcsL (u.drop i) (v.drop k) + 1)) where
  len := by rw [List.length_set]; exact h.len
  at_ := fun i' k' hi' hk' => by
    by_cases e : i * (v.length + 1) + k = i' * (v.length + 1) + k'
    · obtain ⟨rfl, rfl⟩ := place_inj hk hk' e
      exact .inr (List.getElem?_set_self (by rw [h.len]; exact place_lt hi hk))
    · rw [List.getElem?_set_ne e]
      exact h.at_ i' k' hi' hk'
end Go.Proofs.Gv
