/- The reference's tree, plainly: nodes with their parents, round by round. -/
import Derived.Test.YtghjjfknlnegpaaGreatGdptP
import Derived.Test.YtghjjfknlnegpaaGreatHufM
import Derived.Test.YtghjjfknlnegpaaGreatHufS
set_option linter.unusedSimpArgs false
set_option linter.unusedVariables false
namespace Go.Proofs.Gv

/-- Within a round: t are taken. -/
structure RunK (q N : Nat) (l : List (Nat × Bool)) (i t : Nat) (rl : List (Nat × Bool × Int)) (pre : List (List (Nat × Nat))) (ns : List (Nat × Nat)) : Prop where
  hl : rl.length = N + i
  hp : pre.length = i
  hn : ns.length = t
  par : ∀ (k w : Nat) (f : Bool) (p : Int), rl[k]? = some (w, f, p) → p = parI (parOf N (pre ++ [ns]) k) ∧ (f = true → parOf N (pre ++ [ns]) k = none)
  out : ∀ k, N + i ≤ k → parOf N (pre ++ [ns]) k = none
  wt : ∀ x ∈ rl, x.1 < 2 ^ (64 + 4 * i)
  ws : ∀ x ∈ ns, x.2 < 2 ^ (64 + 4 * i)
  cfn : cf (flR rl) + t = cf l
  t1 : (takeN q l).1 = ns ++ (takeN (q - t) (flR rl)).1
  t2 : (takeN q l).2 = (takeN (q - t) (flR rl)).2
theorem flR_set {rl : List (Nat × Bool × Int)} (k w : Nat) (f : Bool) (p : Int) : flR (rl.set k (w, f, p)) = (flR rl).set k (w, f) := by
  unfold flR; rw [List.map_set]
theorem RunK.step {q N i t : Nat} {l : List (Nat × Bool)} {rl : List (Nat × Bool × Int)} {pre : List (List (Nat × Nat))} {ns : List (Nat × Nat)} (R : RunK q N l i t rl pre ns) (ht : t < q) (hq : q ≤ cf l) :
    ∃ (k w : Nat) (p : Int), leastO (flR rl) = some (k, w) ∧ rl[k]? = some (w, true, p) ∧ w < 2 ^ (64 + 4 * i) ∧ RunK q N l i (t + 1) (rl.set k (w, false, ((N + i : Nat) : Int))) pre (ns ++ [(k, w)]) := by
  obtain ⟨k, w, hk⟩ := cf_pos (l := flR rl) (by have := R.cfn; omega)
  have hL := leastO_some hk
  have hkr := hL.1
  rw [flR_at] at hkr
  obtain ⟨⟨wk, fk, p⟩, hrk, e⟩ := Option.map_eq_some_iff.1 hkr
  simp only [Prod.mk.injEq] at e
  obtain ⟨rfl, rfl⟩ := e
  have hklt := (List.getElem?_eq_some_iff.1 hrk).1
  have hwk := R.wt _ (List.mem_of_getElem? hrk)
  have hpk := (R.par k _ _ _ hrk).2 rfl
  have hpk0 : parOf N pre k = none := by
    rw [parOf_snoc] at hpk
    cases h : parOf N pre k with
    | some m => rw [h] at hpk; cases hpk
    | none => rfl
  have hnk : k ∉ ns.map (·.1) := fun hm => by
    rw [parOf_snoc, hpk0] at hpk
    simp only at hpk
    rw [if_pos hm] at hpk
    cases hpk
  have htk : q - t = (q - (t + 1)) + 1 := by omega
  have hT := takeN_succ (q := q - (t + 1)) hk
  rw [← htk] at hT
  refine ⟨k, wk, p, hk, hrk, hwk, ⟨by rw [List.length_set]; exact R.hl, R.hp, by rw [List.length_append, R.hn]; rfl, ?_, ?_, ?_, ?_, ?_, ?_, ?_⟩⟩
  · intro k' w f p' h
    by_cases e : k = k'
    · subst e
      rw [List.getElem?_set_self hklt] at h
      simp only [Option.some.injEq, Prod.mk.injEq] at h
      obtain ⟨-, rfl, rfl⟩ := h
      rw [parOf_snoc, hpk0]
      simp only
      rw [if_pos (by simp), R.hp]
      exact ⟨rfl, fun h => by cases h⟩
    · rw [List.getElem?_set_ne e] at h
      obtain ⟨h1, h2⟩ := R.par k' w f p' h
      have e2 : parOf N (pre ++ [ns ++ [(k, wk)]]) k' = parOf N (pre ++ [ns]) k' := by
        rw [parOf_snoc, parOf_snoc]
        cases parOf N pre k' with
        | some m => rfl
        | none =>
          simp only [List.map_append, List.mem_append, List.map_cons, List.map_nil, List.mem_singleton]
          by_cases hm : k' ∈ ns.map (·.1)
          · rw [if_pos hm, if_pos (.inl hm)]
          · rw [if_neg hm, if_neg (by rintro (h | h); exact hm h; exact e h.symm)]
      rw [e2]
      exact ⟨h1, h2⟩
  · intro k' h
    have h2 := R.out k' h
    rw [parOf_snoc] at h2 ⊢
    cases h3 : parOf N pre k' with
    | some m => rw [h3] at h2; cases h2
    | none =>
      rw [h3] at h2
      simp only at h2 ⊢
      have hm : k' ∉ ns.map (·.1) := fun hm => by rw [if_pos hm] at h2; cases h2
      have hke : k' ≠ k := fun e => by have := R.hl; omega
      rw [if_neg (by simp only [List.map_append, List.mem_append, List.map_cons, List.map_nil, List.mem_singleton]; rintro (h | h); exact hm h; exact hke h)]
  · intro x hx
    rcases List.mem_or_eq_of_mem_set hx with h | h
    · exact R.wt x h
    · rw [h]; exact hwk
  · intro x hx
    rcases List.mem_append.1 hx with h | h
    · exact R.ws x h
    · rw [List.mem_singleton.1 h]; exact hwk
  · rw [flR_set]
    have := cf_set hL.1
    have := R.cfn
    omega
  · rw [flR_set, R.t1, hT]
    simp
  · rw [flR_set, R.t2, hT]
end Go.Proofs.Gv
