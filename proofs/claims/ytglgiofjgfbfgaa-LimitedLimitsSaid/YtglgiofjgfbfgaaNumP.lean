/- The last step of a row whose call makes memory: what lay below is as it was. -/
import Derived.ProofKit
import Derived.Below
import Derived.ChangeSame
import Derived.WalkKit
set_option linter.unusedSimpArgs false
set_option linter.unusedVariables false
namespace Go.Proofs.Gv
open Go Go.RowKit Go.WideShapes Go.ChangeShapes
section
variable {H : Type} {enc : TypeId × Value → H} {P : Program}
theorem post_of_below {f : Func} {s : ChangeSpec} {apart fresh handsOn again : Bool} {W W' : World} {args : Array Value} {v : Value} {ds gs : List (DataW H)} {before pa pv : List MemPlace}
    (hW : DataW.Whole enc P f.params.toList s.vars apart W args.toList ds gs before)
    (hres : ∀ (b : Nat) (sp : Nat → Bool) (hd : Bool), DataW.TrodAll enc P W' b sp hd f.resultTypes.toList (v.resultList f.resultTypes.size) (s.fn H (ds ++ gs)).results [])
    (hargs : ∀ sp : Nat → Bool, (∀ p ∈ before, sp p.block = true) → DataW.TrodAll enc P W' 0 sp true f.params.toList args.toList (s.fn H (ds ++ gs)).args pa)
    (hvars : ∀ sp : Nat → Bool, (∀ p ∈ before, sp p.block = true) → DataW.TrodVars enc P W' sp s.vars (s.fn H (ds ++ gs)).vars pv)
    (hps : before = pa ++ pv) (hb : Below W.heap.size W W')
    (hok : ∀ (j : Nat) (t : TypeId) (r : Value), f.resultTypes[j]? = some t → (v.resultList f.resultTypes.size)[j]? = some r → Value.okWide P W' .any 0 t r) :
    s.post enc P f apart fresh handsOn again W args v W' := by
  have hlt : ∀ p ∈ before, p.block < W.heap.size := fun p hp => hW.lt p hp
  have hold : ∀ p ∈ before, (fun b => decide (b < W.heap.size)) p.block = true := fun p hp => by simpa using hlt p hp
  refine ⟨ds, gs, before, [], pa, pv, hW, hres _ _ _, hargs _ hold, hvars _ hold, World.keptBut_mono (fun p hp => ⟨hp, ?_⟩) (hb.frame (· ∈ before)), fun _ => ?_⟩
  · rw [hps, List.mem_append] at hp
    exact Or.inr hp
  · obtain ⟨_, _, _, _, _, hz, hn⟩ := hW
    refine ⟨hok, _, _, ([] ++ pa) ++ pv, ⟨[] ++ pa, pv, trodAll_append (hargs _ (fun _ _ => rfl)) (hres _ _ _), hvars _ (fun _ _ => rfl), rfl, ?_, ?_⟩, ?_⟩
    · intro b off hp
      have hin : MemPlace.cell b off ∈ before := by rw [hps]; simpa using hp
      rw [hb.frozen (hlt _ hin)]
      exact hz b off hin
    · intro ha
      have := hn ha
      rw [hps] at this
      simpa using this
    · intro p hp _
      rw [hps]
      simpa using hp
end
end Go.Proofs.Gv

namespace Go.Proofs.Gv

/-- The base. -/
def B32 : Nat := 4294967296
theorem B32_pos : 0 < B32 := by decide
theorem pow_pos (k : Nat) : 0 < B32 ^ k := Nat.pow_pos B32_pos

/-- Digit i of x. -/
def D (x i : Nat) : Nat := x / B32 ^ i % B32
theorem D_lt (x i : Nat) : D x i < B32 := Nat.mod_lt _ B32_pos
theorem D_lt' (x i : Nat) : D x i < 4294967296 := D_lt x i
theorem D_zero (i : Nat) : D 0 i = 0 := by simp [D]

/-- The number of digits of x. -/
def nlen (x : Nat) : Nat := if h : x = 0 then 0 else nlen (x / B32) + 1
termination_by x
decreasing_by exact Nat.div_lt_self (by omega) (by decide)

theorem nlen_zero : nlen 0 = 0 := by rw [nlen]; simp
theorem nlen_pos {x : Nat} (h : x ≠ 0) : nlen x = nlen (x / B32) + 1 := by rw [nlen]; simp [h]
theorem nlen_eq_zero {x : Nat} : nlen x = 0 ↔ x = 0 := by
  constructor
  · intro h
    by_cases hx : x = 0
    · exact hx
    · rw [nlen_pos hx] at h; omega
  · rintro rfl; exact nlen_zero

theorem lt_pow_of_nlen : ∀ (k x : Nat), nlen x ≤ k → x < B32 ^ k := by
  intro k
  induction k with
  | zero => intro x h; have := nlen_eq_zero.1 (Nat.le_zero.1 h); subst this; simp
  | succ k ih =>
    intro x h
    by_cases hx : x = 0
    · subst hx; exact pow_pos _
    · rw [nlen_pos hx] at h
      have := ih (x / B32) (by omega)
      rw [Nat.div_lt_iff_lt_mul B32_pos] at this
      rwa [Nat.pow_succ]

theorem nlen_le_of_lt : ∀ (k x : Nat), x < B32 ^ k → nlen x ≤ k := by
  intro k
  induction k with
  | zero => intro x h; have : x = 0 := by simpa using h
            subst this; rw [nlen_zero]; omega
  | succ k ih =>
    intro x h
    by_cases hx : x = 0
    · subst hx; rw [nlen_zero]; omega
    · rw [nlen_pos hx]
      have := ih (x / B32) (by rw [Nat.div_lt_iff_lt_mul B32_pos]; rwa [Nat.pow_succ] at h)
      omega

theorem lt_pow_nlen (x : Nat) : x < B32 ^ nlen x := lt_pow_of_nlen _ _ (Nat.le_refl _)
theorem nlen_le_iff {k x : Nat} : nlen x ≤ k ↔ x < B32 ^ k := ⟨lt_pow_of_nlen k x, nlen_le_of_lt k x⟩
theorem lt_nlen_iff {k x : Nat} : k < nlen x ↔ B32 ^ k ≤ x := by
  rw [← Nat.not_le, nlen_le_iff, Nat.not_lt]
theorem nlen_mono {x y : Nat} (h : x ≤ y) : nlen x ≤ nlen y := nlen_le_iff.2 (Nat.lt_of_le_of_lt h (lt_pow_nlen y))

theorem D_high {x i : Nat} (h : nlen x ≤ i) : D x i = 0 := by
  have := nlen_le_iff.1 h
  unfold D
  rw [Nat.div_eq_of_lt this]; rfl

theorem mod_succ (x k : Nat) : x % B32 ^ (k + 1) = x % B32 ^ k + B32 ^ k * D x k := by
  rw [Nat.pow_succ, Nat.mod_mul]; rfl

theorem div_step (x k : Nat) : x / B32 ^ k = x / B32 ^ (k + 1) * B32 + D x k := by
  rw [Nat.pow_succ, ← Nat.div_div_eq_div_mul]
  unfold D
  have := Nat.div_add_mod (x / B32 ^ k) B32
  rw [Nat.mul_comm] at this
  exact this.symm

/-- The number with the first n digits of f. -/
def val (f : Nat → Nat) : Nat → Nat
  | 0 => 0
  | n + 1 => val f n + f n * B32 ^ n

theorem val_D (x n : Nat) : val (D x) n = x % B32 ^ n := by
  induction n with
  | zero => simp [val, Nat.mod_one]
  | succ n ih => rw [val, ih, mod_succ, Nat.mul_comm]

theorem val_lt {f : Nat → Nat} {n : Nat} (h : ∀ i, i < n → f i < B32) : val f n < B32 ^ n := by
  induction n with
  | zero => simp [val]
  | succ n ih =>
    have h1 := ih (fun i hi => h i (by omega))
    have h2 := h n (by omega)
    have h3 : (f n + 1) * B32 ^ n ≤ B32 * B32 ^ n := Nat.mul_le_mul_right _ (by omega)
    rw [val, Nat.pow_succ, Nat.mul_comm (B32 ^ n)]
    rw [Nat.add_mul] at h3
    omega

theorem D_val {f : Nat → Nat} {n : Nat} (h : ∀ i, i < n → f i < B32) : ∀ i, i < n → D (val f n) i = f i := by
  induction n with
  | zero => intro i hi; omega
  | succ n ih =>
    intro i hi
    have hv := val_lt (n := n) (fun i hi => h i (by omega))
    have hn := h n (by omega)
    by_cases e : i = n
    · subst e
      unfold D
      rw [val, Nat.add_mul_div_right _ _ (pow_pos _), Nat.div_eq_of_lt hv, Nat.zero_add, Nat.mod_eq_of_lt hn]
    · have hlt : i < n := by omega
      rw [← ih (fun i hi => h i (by omega)) i hlt]
      unfold D
      rw [val]
      obtain ⟨k, rfl⟩ : ∃ k, n = i + 1 + k := ⟨n - (i + 1), by omega⟩
      rw [show f (i + 1 + k) * B32 ^ (i + 1 + k) = f (i + 1 + k) * B32 ^ k * B32 * B32 ^ i by
        rw [Nat.pow_add, Nat.pow_succ]; simp only [Nat.mul_assoc, Nat.mul_left_comm, Nat.mul_comm]]
      rw [Nat.add_mul_div_right _ _ (pow_pos _), Nat.add_mul_mod_self_right]

end Go.Proofs.Gv
