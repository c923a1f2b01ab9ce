/- Package-merge, plainly: the lists of the levels, how many are taken, and that the counts are lengths of least cost. -/
import Derived.Test.YtglgiofjgfbfgaaLcnP
import Derived.Test.YtglgiofjgfbfgaaHufM
set_option linter.unusedSimpArgs false
set_option linter.unusedVariables false
namespace Go.Proofs.Gv

/-- two ordered lists in one: those of the first ahead of equal ones of the second. -/
def mgI : List (Nat × Bool) → List (Nat × Bool) → List (Nat × Bool)
  | [], b => b
  | x :: a, b => go x a (mgI a) b
where go (x : Nat × Bool) (a : List (Nat × Bool)) (rec : List (Nat × Bool) → List (Nat × Bool)) : List (Nat × Bool) → List (Nat × Bool)
  | [] => x :: a
  | y :: b => if x.1 ≤ y.1 then x :: rec (y :: b) else y :: go x a rec b
theorem mgI_nil (b : List (Nat × Bool)) : mgI [] b = b := by rw [mgI]
theorem mgI_nil' (a : List (Nat × Bool)) : mgI a [] = a := by cases a <;> rfl
theorem mgI_cons (x y : Nat × Bool) (a b : List (Nat × Bool)) : mgI (x :: a) (y :: b) = if x.1 ≤ y.1 then x :: mgI a (y :: b) else y :: mgI (x :: a) b := by
  show mgI.go x a (mgI a) (y :: b) = _
  rw [mgI.go]; rfl
def pkI : List (Nat × Bool) → List (Nat × Bool)
  | x :: y :: l => (x.1 + y.1, false) :: pkI l
  | _ => []
def sgI (A : List Nat) : List (Nat × Bool) := A.map (·, true)
def lvI (A : List Nat) : Nat → List (Nat × Bool)
  | 0 => []
  | t + 1 => mgI (sgI A) (pkI (lvI A t))
def wsI (l : List (Nat × Bool)) : Nat := (l.map (·.1)).sum
def sgN (l : List (Nat × Bool)) : Nat := l.countP (·.2)
/-- what is taken, from the level of a number on downwards. -/
def tkI (A : List Nat) : Nat → Nat → List (Nat × Nat)
  | 0, _ => []
  | t + 1, m => (m, sgN ((lvI A (t + 1)).take m)) :: tkI A t (2 * (m - sgN ((lvI A (t + 1)).take m)))
abbrev AscI (l : List (Nat × Bool)) : Prop := l.Pairwise fun a b => a.1 ≤ b.1

theorem mgI_mem (z : Nat × Bool) : ∀ a b : List (Nat × Bool), z ∈ mgI a b ↔ z ∈ a ∨ z ∈ b
  | [], b => by rw [mgI_nil]; simp
  | x :: a, [] => by rw [mgI_nil']; simp
  | x :: a, y :: b => by
    rw [mgI_cons]; split
    · rw [List.mem_cons, mgI_mem z a (y :: b), List.mem_cons (a := z) (b := x), or_assoc]
    · rw [List.mem_cons, mgI_mem z (x :: a) b, List.mem_cons (a := z) (b := y) (l := b), or_left_comm]
  termination_by a b => a.length + b.length
theorem mgI_asc : ∀ a b : List (Nat × Bool), AscI a → AscI b → AscI (mgI a b)
  | [], b, _, hb => by rw [mgI_nil]; exact hb
  | x :: a, [], ha, _ => by rw [mgI_nil']; exact ha
  | x :: a, y :: b, ha, hb => by
    have ha' := List.pairwise_cons.1 ha
    have hb' := List.pairwise_cons.1 hb
    rw [mgI_cons]; split
    · rename_i hxy
      refine List.pairwise_cons.2 ⟨fun z hz => ?_, mgI_asc a (y :: b) ha'.2 hb⟩
      rcases (mgI_mem z a (y :: b)).1 hz with h | h
      · exact ha'.1 z h
      · rcases List.mem_cons.1 h with h | h
        · rw [h]; exact hxy
        · exact Nat.le_trans hxy (hb'.1 z h)
    · rename_i hxy
      refine List.pairwise_cons.2 ⟨fun z hz => ?_, mgI_asc (x :: a) b ha hb'.2⟩
      rcases (mgI_mem z (x :: a) b).1 hz with h | h
      · rcases List.mem_cons.1 h with h | h
        · rw [h]; omega
        · have := ha'.1 z h; omega
      · exact hb'.1 z h
  termination_by a b => a.length + b.length
theorem mgI_len : ∀ a b : List (Nat × Bool), (mgI a b).length = a.length + b.length
  | [], b => by rw [mgI_nil]; simp
  | x :: a, [] => by rw [mgI_nil']; simp
  | x :: a, y :: b => by
    rw [mgI_cons]; split
    · rw [List.length_cons, mgI_len a (y :: b)]; simp only [List.length_cons]; omega
    · rw [List.length_cons, mgI_len (x :: a) b]; simp only [List.length_cons]; omega
  termination_by a b => a.length + b.length

theorem wsI_cons (x : Nat × Bool) (l : List (Nat × Bool)) : wsI (x :: l) = x.1 + wsI l := by simp [wsI]
/-- the first of a merged list: the first of both; a single that is not taken weighs more than what is taken of the packages. -/
theorem mgI_split : ∀ (X Y : List (Nat × Bool)) (m : Nat), AscI X → (∀ x ∈ X, x.2 = true) → (∀ y ∈ Y, y.2 = false) → m ≤ X.length + Y.length →
    ∃ a b, a + b = m ∧ a ≤ X.length ∧ b ≤ Y.length ∧ sgN ((mgI X Y).take m) = a ∧ wsI ((mgI X Y).take m) = wsI (X.take a) + wsI (Y.take b) ∧ (∀ x y, X[a]? = some x → ∀ j, j < b → AscI Y → Y[j]? = some y → y.1 < x.1) ∧ ∀ z ∈ X.take a, z ∈ (mgI X Y).take m
  | [], Y, m, _, _, hY, hm => by
    rw [mgI_nil]
    refine ⟨0, m, Nat.zero_add m, Nat.le_refl _, by simpa using hm, ?_, by simp [wsI], (fun x y hx => by simp at hx), fun z hz => by simp at hz⟩
    unfold sgN
    rw [List.countP_eq_zero]
    intro y hy
    simp [hY y (List.mem_of_mem_take hy)]
  | x :: X, [], m, _, hX, _, hm => by
    rw [mgI_nil']
    refine ⟨m, 0, rfl, by simpa using hm, Nat.le_refl _, ?_, by simp [wsI], (fun x y _ j hj => by cases hj), fun z hz => hz⟩
    unfold sgN
    rw [List.countP_eq_length.2 fun y hy => hX y (List.mem_of_mem_take hy), List.length_take]
    have : m ≤ (x :: X).length := by simpa using hm
    omega
  | x :: X, y :: Y, m, hXA, hX, hY, hm => by
    have hXA' := List.pairwise_cons.1 hXA
    cases m with
    | zero => exact ⟨0, 0, rfl, Nat.zero_le _, Nat.zero_le _, by simp [sgN], by simp [wsI], (fun x y _ j hj => by cases hj), fun z hz => by simp at hz⟩
    | succ m =>
      rw [List.length_cons, List.length_cons] at hm
      rw [mgI_cons]; split
      · rename_i hxy
        obtain ⟨a, b, h1, h2, h3, h4, h5, h6, h7⟩ := mgI_split X (y :: Y) m hXA'.2 (fun z hz => hX z (List.mem_cons_of_mem _ hz)) hY (by rw [List.length_cons]; omega)
        refine ⟨a + 1, b, by omega, by rw [List.length_cons]; omega, h3, ?_, ?_, fun x' y' hx' j hj hA hy' => ?_, fun z hz => ?_⟩
        · rw [List.take_succ_cons]; unfold sgN at h4 ⊢; rw [List.countP_cons, h4, if_pos (hX x (List.mem_cons_self ..))]
        · rw [List.take_succ_cons, List.take_succ_cons, wsI_cons, wsI_cons, h5]; omega
        · rw [List.getElem?_cons_succ] at hx'
          exact h6 x' y' hx' j hj hA hy'
        · rw [List.take_succ_cons] at hz ⊢
          rcases List.mem_cons.1 hz with h | h
          · rw [h]; exact List.mem_cons_self ..
          · exact List.mem_cons_of_mem _ (h7 z h)
      · rename_i hxy
        obtain ⟨a, b, h1, h2, h3, h4, h5, h6, h7⟩ := mgI_split (x :: X) Y m hXA hX (fun z hz => hY z (List.mem_cons_of_mem _ hz)) (by rw [List.length_cons]; omega)
        refine ⟨a, b + 1, by omega, h2, by rw [List.length_cons]; omega, ?_, ?_, fun x' y' hx' j hj hA hy' => ?_, fun z hz => ?_⟩
        · rw [List.take_succ_cons]; unfold sgN at h4 ⊢; rw [List.countP_cons, h4, if_neg (by rw [hY y (List.mem_cons_self ..)]; simp)]; rfl
        · rw [List.take_succ_cons, List.take_succ_cons, wsI_cons, wsI_cons, h5]; omega
        · have hA' := List.pairwise_cons.1 hA
          cases j with
          | succ j => rw [List.getElem?_cons_succ] at hy'; exact h6 x' y' hx' j (by omega) hA'.2 hy'
          | zero =>
            rw [List.getElem?_cons_zero] at hy'
            have hyy : y = y' := by injection hy'
            subst hyy
            have := List.mem_of_getElem? hx'
            rcases List.mem_cons.1 this with h | h
            · rw [h]; omega
            · have := hXA'.1 _ h; omega
        · rw [List.take_succ_cons]
          exact List.mem_cons_of_mem _ (h7 z hz)
  termination_by X Y => X.length + Y.length
theorem pkI_false : ∀ l : List (Nat × Bool), ∀ y ∈ pkI l, y.2 = false
  | x :: y :: l, z, h => by
    rw [pkI] at h
    rcases List.mem_cons.1 h with h | h
    · rw [h]
    · exact pkI_false l z h
  | [], z, h => by cases h
  | [x], z, h => by cases h
theorem pkI_len : ∀ l : List (Nat × Bool), (pkI l).length = l.length / 2
  | x :: y :: l => by rw [pkI, List.length_cons, pkI_len l, List.length_cons, List.length_cons]; omega
  | [] => by simp [pkI]
  | [x] => by simp [pkI]
theorem pkI_asc : ∀ l : List (Nat × Bool), AscI l → AscI (pkI l) ∧ ∀ x y, l[0]? = some x → l[1]? = some y → ∀ z ∈ pkI l, x.1 + y.1 ≤ z.1
  | [], _ => ⟨List.Pairwise.nil, fun _ _ h => by cases h⟩
  | [x], _ => ⟨List.Pairwise.nil, fun _ _ _ h => by cases h⟩
  | [x, y], _ => by
    refine ⟨by simp [pkI], fun x' y' hx hy z hz => ?_⟩
    have h1 : x = x' := by simpa using hx
    have h2 : y = y' := by simpa using hy
    subst h1; subst h2
    have hz' : z ∈ [((x.1 + y.1, false) : Nat × Bool)] := by simpa [pkI] using hz
    rw [List.mem_singleton.1 hz']; exact Nat.le_refl _
  | [x, y, u], _ => by
    refine ⟨by simp [pkI], fun x' y' hx hy z hz => ?_⟩
    have h1 : x = x' := by simpa using hx
    have h2 : y = y' := by simpa using hy
    subst h1; subst h2
    have hz' : z ∈ [((x.1 + y.1, false) : Nat × Bool)] := by simpa [pkI] using hz
    rw [List.mem_singleton.1 hz']; exact Nat.le_refl _
  | x :: y :: u :: v :: l, h => by
    have h' := List.pairwise_cons.1 h
    have h2' := List.pairwise_cons.1 h'.2
    have h3' := List.pairwise_cons.1 h2'.2
    obtain ⟨i1, i2⟩ := pkI_asc (u :: v :: l) h2'.2
    have hxu := h'.1 u (List.mem_cons_of_mem _ (List.mem_cons_self ..))
    have hyv := h2'.1 v (List.mem_cons_of_mem _ (List.mem_cons_self ..))
    have hlow : ∀ z ∈ pkI (u :: v :: l), x.1 + y.1 ≤ z.1 := fun z hz => by have := i2 u v rfl rfl z hz; omega
    refine ⟨?_, fun x' y' hx hy z hz => ?_⟩
    · rw [pkI]; exact List.pairwise_cons.2 ⟨hlow, i1⟩
    · have h1 : x = x' := by simpa using hx
      have h2 : y = y' := by simpa using hy
      subst h1; subst h2
      rw [pkI] at hz
      rcases List.mem_cons.1 hz with h | h
      · rw [h]; exact Nat.le_refl _
      · exact hlow z h
theorem pkI_sum : ∀ (l : List (Nat × Bool)) (k : Nat), 2 * k ≤ l.length → wsI ((pkI l).take k) = wsI (l.take (2 * k))
  | l, 0, _ => by simp [wsI]
  | [], k + 1, h => by simp at h
  | [x], k + 1, h => by simp only [List.length_cons, List.length_nil] at h; omega
  | x :: y :: l, k + 1, h => by
    rw [pkI, show 2 * (k + 1) = 2 * k + 1 + 1 by omega, List.take_succ_cons, List.take_succ_cons, List.take_succ_cons, wsI_cons, wsI_cons, wsI_cons, pkI_sum l k (by simp only [List.length_cons] at h; omega)]
    omega
/-- what is taken into packages is no more than its package. -/
theorem pkI_at : ∀ (l : List (Nat × Bool)) (k b : Nat) (x : Nat × Bool), l[k]? = some x → k < 2 * b → 2 * b ≤ l.length → ∃ y, (pkI l)[k / 2]? = some y ∧ x.1 ≤ y.1
  | [], k, b, x, h, _, _ => by simp at h
  | [z], k, b, x, h, h1, h2 => by simp only [List.length_cons, List.length_nil] at h2; omega
  | u :: v :: l, k, b, x, h, h1, h2 => by
    match k, h with
    | 0, h => have : u = x := by simpa using h
              subst this; exact ⟨_, rfl, Nat.le_add_right _ _⟩
    | 1, h => have : v = x := by simpa using h
              subst this; exact ⟨_, rfl, Nat.le_add_left _ _⟩
    | k + 2, h =>
      obtain ⟨y, hy, hxy⟩ := pkI_at l k (b - 1) x (by simpa using h) (by omega) (by simp only [List.length_cons] at h2; omega)
      refine ⟨y, ?_, hxy⟩
      rw [pkI, show (k + 2) / 2 = k / 2 + 1 by omega, List.getElem?_cons_succ]; exact hy

theorem sgI_true (A : List Nat) : ∀ x ∈ sgI A, x.2 = true := fun x h => by
  obtain ⟨a, _, rfl⟩ := List.mem_map.1 h; rfl
theorem sgI_len (A : List Nat) : (sgI A).length = A.length := List.length_map ..
theorem sgI_asc {A : List Nat} (h : A.Pairwise (· ≤ ·)) : AscI (sgI A) := List.pairwise_map.2 h
theorem sgI_take (A : List Nat) (a : Nat) : wsI ((sgI A).take a) = (A.take a).sum := by
  unfold wsI sgI
  rw [← List.map_take, List.map_map]
  show ((A.take a).map fun x => x).sum = _
  rw [List.map_id']
theorem lvI_asc {A : List Nat} (h : A.Pairwise (· ≤ ·)) : ∀ t, AscI (lvI A t)
  | 0 => List.Pairwise.nil
  | t + 1 => mgI_asc _ _ (sgI_asc h) (pkI_asc _ (lvI_asc h t)).1
theorem lvI_len (A : List Nat) (t : Nat) : (lvI A (t + 1)).length = A.length + (lvI A t).length / 2 := by
  rw [lvI, mgI_len, sgI_len, pkI_len]
theorem lvI_room (A : List Nat) : ∀ t, 2 * A.length * (2 ^ t - 1) < ((lvI A t).length + 1) * 2 ^ t
  | 0 => by simp [lvI]
  | t + 1 => by
    have ih := lvI_room A t
    rw [lvI_len]
    have hp : 0 < 2 ^ t := Nat.two_pow_pos t
    have h2 : 2 ^ (t + 1) = 2 * 2 ^ t := Nat.pow_succ'
    rw [h2]
    generalize 2 ^ t = P at *
    generalize (lvI A t).length = L at *
    generalize A.length = n at *
    have h3 : 2 * n + L + 1 ≤ 2 * (n + L / 2 + 1) := by omega
    have h4 := Nat.mul_le_mul_right P h3
    have h5 : (n + L / 2 + 1) * (2 * P) = 2 * (n + L / 2 + 1) * P := by rw [← Nat.mul_assoc, Nat.mul_comm (n + L / 2 + 1) 2]
    rw [h5]
    refine Nat.lt_of_lt_of_le ?_ h4
    obtain ⟨Q, rfl⟩ : ∃ Q, P = Q + 1 := ⟨P - 1, by omega⟩
    rw [show 2 * (Q + 1) - 1 = (Q + 1) + Q by omega]
    have : (2 * n + L + 1) * (Q + 1) = 2 * n * (Q + 1) + (L + 1) * (Q + 1) := by rw [Nat.add_assoc (2 * n), Nat.add_mul]
    rw [this, Nat.mul_add]
    rw [show Q + 1 - 1 = Q from rfl] at ih
    omega
theorem lvI_has {A : List Nat} {t : Nat} (h : A.length ≤ 2 ^ (t + 1)) : 2 * A.length - 2 ≤ (lvI A (t + 1)).length := by
  have h1 := lvI_room A (t + 1)
  have hp : 0 < 2 ^ (t + 1) := Nat.two_pow_pos _
  generalize (lvI A (t + 1)).length = L at *
  generalize A.length = n at *
  generalize 2 ^ (t + 1) = P at *
  rcases Nat.lt_or_ge L (2 * n - 2) with hc | hc
  · exfalso
    have h2 : (L + 1) * P ≤ (2 * n - 2) * P := Nat.mul_le_mul_right _ hc
    have h3 : 2 * n * (P - 1) = 2 * n * P - 2 * n := by rw [Nat.mul_sub, Nat.mul_one]
    have h4 : (2 * n - 2) * P = 2 * n * P - 2 * P := by rw [Nat.sub_mul]
    have h5 : 2 * P ≤ 2 * n * P := Nat.mul_le_mul_right _ (by omega)
    omega
  · exact hc

/-! The first of a level weigh least. -/
end Go.Proofs.Gv

namespace Go.Proofs.Gv

/-- one level: what the first of it are made of. -/
theorem lvI_split {A : List Nat} (hA : A.Pairwise (· ≤ ·)) {t m : Nat} (hm : m ≤ (lvI A (t + 1)).length) :
    ∃ s, sgN ((lvI A (t + 1)).take m) = s ∧ s ≤ m ∧ s ≤ A.length ∧ 2 * (m - s) ≤ (lvI A t).length ∧ wsI ((lvI A (t + 1)).take m) = (A.take s).sum + wsI ((lvI A t).take (2 * (m - s)))
      ∧ (∀ x, (sgI A)[s]? = some x → x ∉ (lvI A t).take (2 * (m - s))) ∧ ∀ z ∈ (sgI A).take s, z ∈ (lvI A (t + 1)).take m := by
  rw [lvI_len] at hm
  obtain ⟨a, b, h1, h2, h3, h4, h5, h6, h7⟩ := mgI_split (sgI A) (pkI (lvI A t)) m (sgI_asc hA) (sgI_true A) (pkI_false _) (by rw [sgI_len, pkI_len]; exact hm)
  rw [sgI_len] at h2
  rw [pkI_len] at h3
  have hb : m - a = b := by omega
  rw [lvI]
  refine ⟨a, h4, by omega, h2, by omega, ?_, fun x hx hin => ?_, h7⟩
  · rw [h5, sgI_take, hb, pkI_sum _ _ (by omega)]
  · rw [hb] at hin
    obtain ⟨k, hk, hkx⟩ := List.getElem_of_mem hin
    rw [List.length_take] at hk
    have hkx' : (lvI A t)[k]? = some x := by
      rw [List.getElem_take] at hkx
      rw [← hkx]; exact List.getElem?_eq_getElem (by omega)
    obtain ⟨y, hy, hxy⟩ := pkI_at _ k b x hkx' (by omega) (by omega)
    have := h6 x y hx (k / 2) (by omega) (pkI_asc _ (lvI_asc hA t)).1 hy
    omega
theorem tkI_len (A : List Nat) : ∀ t m, (tkI A t m).length = t
  | 0, _ => rfl
  | t + 1, m => by rw [tkI, List.length_cons, tkI_len A t]
def auL (Ws : List Nat) : List Nat := (owL Ws).reverse
theorem auL_asc (Ws : List Nat) : (auL Ws).Pairwise (· ≤ ·) := by
  unfold auL owL
  rw [← List.map_reverse]
  unfold ordL
  rw [List.reverse_reverse]
  exact List.pairwise_map.2 (ordR_asc _ _)
theorem auL_len (Ws : List Nat) : (auL Ws).length = Ws.length := by unfold auL; rw [List.length_reverse, owL_len]
end Go.Proofs.Gv

namespace Go.Proofs.Gv
open Go Go.RowKit Go.Maps

/-- A row of items as cells. -/
def itV (L : List (Nat × Bool)) : List Value := L.flatMap fun x => [.bool false, .string (mg x.1), .bool x.2]
theorem itV_len (L : List (Nat × Bool)) : (itV L).length = L.length * 3 := by
  unfold itV
  induction L with
  | nil => rfl
  | cons x L ih => rw [List.flatMap_cons, List.length_append, ih]; simp only [List.length_cons, List.length_nil]; omega
theorem itV_app (A B : List (Nat × Bool)) : itV (A ++ B) = itV A ++ itV B := List.flatMap_append ..
theorem itV_cons (x : Nat × Bool) (L : List (Nat × Bool)) : itV (x :: L) = [.bool false, .string (mg x.1), .bool x.2] ++ itV L := rfl
theorem itV_drop : ∀ (L : List (Nat × Bool)) (i : Nat), itV (L.drop i) = (itV L).drop (i * 3)
  | L, 0 => by simp
  | [], i + 1 => by simp [itV]
  | x :: L, i + 1 => by
    rw [List.drop_succ_cons, itV_drop L i, itV_cons, show (i + 1) * 3 = 3 + i * 3 by omega, ← List.drop_drop]
    rfl
theorem itV_at {L : List (Nat × Bool)} {i : Nat} {x : Nat × Bool} (h : L[i]? = some x) : (itV L)[i * 3]? = some (.bool false) ∧ (itV L)[i * 3 + 1]? = some (.string (mg x.1)) ∧ (itV L)[i * 3 + 2]? = some (.bool x.2) := by
  have e : L.drop i = x :: L.drop (i + 1) := by
    obtain ⟨h1, h2⟩ := List.getElem?_eq_some_iff.1 h
    rw [← h2]; exact List.drop_eq_getElem_cons h1
  have h2 := itV_drop L i
  rw [e, itV_cons] at h2
  have at_ : ∀ k, (itV L)[i * 3 + k]? = ((itV L).drop (i * 3))[k]? := fun k => by rw [List.getElem?_drop]
  refine ⟨?_, ?_, ?_⟩
  · have := at_ 0; rw [Nat.add_zero] at this; rw [this, ← h2]; rfl
  · rw [at_ 1, ← h2]; rfl
  · rw [at_ 2, ← h2]; rfl
theorem itV_take {L : List (Nat × Bool)} {i : Nat} {x : Nat × Bool} (h : L[i]? = some x) : itV (L.take (i + 1)) = itV (L.take i) ++ [.bool false, .string (mg x.1), .bool x.2] := by
  rw [List.take_add_one, h, itV_app]; rfl
theorem itV_one : ∀ (L : List (Nat × Bool)) (u : Value), u ∈ itV L → u.oneCell' = true
  | [], u, h => by cases h
  | x :: L, u, h => by
    rw [itV_cons] at h
    rcases List.mem_append.1 h with h | h
    · simp only [List.mem_cons, List.not_mem_nil, or_false] at h
      rcases h with rfl | rfl | rfl <;> rfl
    · exact itV_one L u h
/-- A row of items reads. -/
def ItS (W : World) (b : Nat) (L : List (Nat × Bool)) : Prop := ∀ (m : Nat) (u : Value), (itV L)[m]? = some u → W.cell? ⟨b, m, none⟩ = some u
theorem ItS.below {W W' : World} {b : Nat} {L : List (Nat × Bool)} (h : ItS W b L) (hb : Below W.heap.size W W') : ItS W' b L := fun m u hm => (hb.cell (World.block_lt_of_cell? _ _ (h m u hm))).trans (h m u hm)
theorem ItS.grown {W W' : World} {b : Nat} {L : List (Nat × Bool)} {row : Option Nat} (h : ItS W b L) (hg : W.grownBy W' row) (hne : row ≠ some b) : ItS W' b L := fun m u hm =>
  (World.cell?_of_block (hg.block b (World.block_lt_of_cell? _ ⟨b, m, none⟩ (h m u hm)) (fun e => hne e.symm))).trans (h m u hm)
theorem ItS.set {W : World} {b p o : Nat} {v : Value} {L : List (Nat × Bool)} (h : ItS W b L) (hne : b ≠ p) : ItS (W.setCell ⟨p, o, none⟩ v) b L := fun m u hm => (World.cell?_setCell_other _ _ _ _ (fun e => hne (congrArg Addr.block e).symm)).trans (h m u hm)
theorem ItS.of {W : World} {g : Nat} {L : List (Nat × Bool)} (h : OwnAt W g (itV L)) : ItS W g L := fun _ _ hm => h.at hm
theorem addrA (b o k : Nat) : (⟨b, o, none⟩ : Addr).add k = ⟨b, o + k, none⟩ := by unfold Addr.add; split <;> simp_all
theorem infoIt : (Try.prog.info? 95).map (fun i => (i.zero, i.size, i.bytes)) = some (some (.agg #[.bool false, .string ⟨#[]⟩, .bool false]), 3, 32) := by kernel_rfl
set_option maxRecDepth 100000 in
set_option maxHeartbeats 1600000 in
/-- The comparison of two items. -/
theorem cmpIt_any (x y : Nat × Bool) (hx : x.1 < 2 ^ 200) (hy : y.1 < 2 ^ 200) (w : World) :
    Calls Try.prog 69 #[.agg #[.bool false, .string (mg x.1), .bool x.2], .agg #[.bool false, .string (mg y.1), .bool y.2]] w fun e w' => e = .returned (.int .i64 (cmpI (x.1 : Int) (y.1 : Int))) ∧ Below w.heap.size w w' := by
  have HC := Lib.hid (fun X => cCmpN (x := x.1) (d := y.1) 200 200 hx hy (by decide) (by decide) X)
  clear hx hy
  have b0 := BC.new w w.heap.size #[.bool false, .string (mg x.1), .bool x.2] 95 rfl
  have b1 := BC.new (w.alloc (.cells #[.bool false, .string (mg x.1), .bool x.2] 95)) (w.heap.size + 1) #[.bool false, .string (mg y.1), .bool y.2] 95 (by simp)
  have b0' := b0.alloc (.cells #[.bool false, .string (mg y.1), .bool y.2] 95)
  have hb : Below w.heap.size w ((w.alloc (.cells #[.bool false, .string (mg x.1), .bool x.2] 95)).alloc (.cells #[.bool false, .string (mg y.1), .bool y.2] 95)) := ((Below.refl _ _).alloc (Nat.le_refl _) _).alloc (by simp) _
  have c0 := b0'.at 0 _ rfl
  have c1 := b0'.at 1 _ rfl
  have d0 := b1.at 0 _ rfl
  have d1 := b1.at 1 _ rfl
  have HB := Lib.hid hb
  clear b0 b1 b0' hb
  go_enter Try.func69, Try.ntmps69
  go_wp2_with fail
  refine (HC.out _).mono ?_
  rintro e w1 ⟨rfl, hb1⟩
  go_wp2
  go_ret
  exact ⟨rfl, bstep HB.out hb1⟩
end Go.Proofs.Gv
