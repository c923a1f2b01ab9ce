/- Limited lengths, plainly: how they are put in their places. -/
import Derived.Test.YtglgiofjgfbfgaaHordP
set_option linter.unusedSimpArgs false
set_option linter.unusedVariables false
namespace Go.Proofs.Gv

theorem putA_len : ∀ (A B out : List Nat), (putA out A B).length = out.length
  | [], _, out => rfl
  | a :: A, [], out => rfl
  | a :: A, b :: B, out => by
    show (putA (out.set a b) A B).length = _
    rw [putA_len A B, List.length_set]
theorem putA_app : ∀ (A B A' B' out : List Nat), A.length = B.length → putA out (A ++ A') (B ++ B') = putA (putA out A B) A' B'
  | [], [], A', B', out, _ => rfl
  | [], b :: B, A', B', out, h => by cases h
  | a :: A, [], A', B', out, h => by cases h
  | a :: A, b :: B, A', B', out, h => putA_app A B A' B' (out.set a b) (by simpa using h)
theorem putA_nil (out B : List Nat) : putA out [] B = out := by cases B <;> rfl
/-- The state behind x weights of a depth. -/
def putX (out : List Nat) (A : List Nat) (j x : Nat) : List Nat := putA out (A.take x) (List.replicate x j)
theorem putX_zero (out A : List Nat) (j : Nat) : putX out A j 0 = out := by unfold putX; rw [List.take_zero, putA_nil]
theorem putX_succ {out A : List Nat} {j x o : Nat} (h : A[x]? = some o) : putX out A j (x + 1) = (putX out A j x).set o j := by
  have hl := (List.getElem?_eq_some_iff.1 h).1
  unfold putX
  rw [List.take_add_one, h, List.replicate_succ', putA_app _ _ _ _ _ (by rw [List.length_take, List.length_replicate]; omega)]
  rfl
theorem putX_len (out A : List Nat) (j x : Nat) : (putX out A j x).length = out.length := putA_len _ _ _
/-- A depth is done. -/
theorem put_step {out A G : List Nat} {j p : Nat} (hp : p ≤ A.length) : putA out A (List.replicate p j ++ G) = putA (putX out A j p) (A.drop p) G := by
  have h := putA_app (A.take p) (List.replicate p j) (A.drop p) G out (by rw [List.length_take, List.length_replicate]; omega)
  rw [List.take_append_drop] at h
  exact h
theorem lenG_end (O : List Nat) (n : Nat) : ∀ r j k, lenG O n r j k n = []
  | 0, j, k => by unfold lenG; rw [pnum_zero, Nat.sub_self, Nat.min_zero]; rfl
  | r + 1, j, k => by unfold lenG; rw [if_neg (Nat.lt_irrefl n)]
theorem lenG_succ (O : List Nat) {n r j k i : Nat} (h : i < n) : lenG O n (r + 1) j k i = List.replicate (pnum O n (r + 1) k i) j ++ lenG O n r (j + 1) (min (2 * (k - pnum O n (r + 1) k i)) n) (i + pnum O n (r + 1) k i) := by
  show (if i < n then _ else _) = _
  rw [if_pos h]
theorem dnP_succ (f : Nat → Option Nat) (v : Option Nat) (p : Nat) : dnP f v (p + 1) = if f (p + 1) = v then p + 1 else dnP f v p := rfl
theorem dnP_hit {f : Nat → Option Nat} {v : Option Nat} {p : Nat} (h : f p = v) : dnP f v p = p := by
  cases p with
  | zero => rfl
  | succ p => rw [dnP_succ, if_pos h]
end Go.Proofs.Gv
