/- Package-merge, plainly: the lists of the levels, how many are taken, and that the counts are lengths of least cost. -/
import Derived.Test.YtglgiofjgfbfgaaRatTP
set_option linter.unusedSimpArgs false
set_option linter.unusedVariables false
namespace Go.Proofs.Gv

/-- two ordered lists in one: those of the first ahead of equal ones of the second. -/
def mgI : List (Nat × Bool) → List (Nat × Bool) → List (Nat × Bool)
  | [], b => b
  | x :: a, b => go x a (mgI a) b
where go (x : Nat × Bool) (a : List (Nat × Bool)) (rec : List (Nat × Bool) → List (Nat × Bool)) : List (Nat × Bool) → List (Nat × Bool)
  | [] => x :: a
  | y :: b => if x.1 ≤ y.1 then x :: rec (y :: b) else y :: go x a rec b
theorem mgI_nil (b : List (Nat × Bool)) : mgI [] b = b := by rw [mgI]
theorem mgI_nil' (a : List (Nat × Bool)) : mgI a [] = a := by cases a <;> rfl
theorem mgI_cons (x y : Nat × Bool) (a b : List (Nat × Bool)) : mgI (x :: a) (y :: b) = if x.1 ≤ y.1 then x :: mgI a (y :: b) else y :: mgI (x :: a) b := by
  show mgI.go x a (mgI a) (y :: b) = _
  rw [mgI.go]; rfl
def pkI : List (Nat × Bool) → List (Nat × Bool)
  | x :: y :: l => (x.1 + y.1, false) :: pkI l
  | _ => []
def sgI (A : List Nat) : List (Nat × Bool) := A.map (·, true)
def lvI (A : List Nat) : Nat → List (Nat × Bool)
  | 0 => []
  | t + 1 => mgI (sgI A) (pkI (lvI A t))
def wsI (l : List (Nat × Bool)) : Nat := (l.map (·.1)).sum
def sgN (l : List (Nat × Bool)) : Nat := l.countP (·.2)
/-- what is taken, from the level of a number on downwards. -/
def tkI (A : List Nat) : Nat → Nat → List (Nat × Nat)
  | 0, _ => []
  | t + 1, m => (m, sgN ((lvI A (t + 1)).take m)) :: tkI A t (2 * (m - sgN ((lvI A (t + 1)).take m)))
abbrev AscI (l : List (Nat × Bool)) : Prop := l.Pairwise fun a b => a.1 ≤ b.1

theorem mgI_mem (z : Nat × Bool) : ∀ a b : List (Nat × Bool), z ∈ mgI a b ↔ z ∈ a ∨ z ∈ b
  | [], b => by rw [mgI_nil]; simp
  | x :: a, [] => by rw [mgI_nil']; simp
  | x :: a, y :: b => by
    rw [mgI_cons]; split
    · rw [List.mem_cons, mgI_mem z a (y :: b), List.mem_cons (a := z) (b := x), or_assoc]
    · rw [List.mem_cons, mgI_mem z (x :: a) b, List.mem_cons (a := z) (b := y) (l := b), or_left_comm]
  termination_by a b => a.length + b.length
theorem mgI_asc : ∀ a b : List (Nat × Bool), AscI a → AscI b → AscI (mgI a b)
  | [], b, _, hb => by rw [mgI_nil]; exact hb
  | x :: a, [], ha, _ => by rw [mgI_nil']; exact ha
  | x :: a, y :: b, ha, hb => by
    have ha' := List.pairwise_cons.1 ha
    have hb' := List.pairwise_cons.1 hb
    rw [mgI_cons]; split
    · rename_i hxy
      refine List.pairwise_cons.2 ⟨fun z hz => ?_, mgI_asc a (y :: b) ha'.2 hb⟩
      rcases (mgI_mem z a (y :: b)).1 hz with h | h
      · exact ha'.1 z h
      · rcases List.mem_cons.1 h with h | h
        · rw [h]; exact hxy
        · exact Nat.le_trans hxy (hb'.1 z h)
    · rename_i hxy
      refine List.pairwise_cons.2 ⟨fun z hz => ?_, mgI_asc (x :: a) b ha hb'.2⟩
      rcases (mgI_mem z (x :: a) b).1 hz with h | h
      · rcases List.mem_cons.1 h with h | h
        · rw [h]; omega
        · have := ha'.1 z h; omega
      · exact hb'.1 z h
  termination_by a b => a.length + b.length
theorem mgI_len : ∀ a b : List (Nat × Bool), (mgI a b).length = a.length + b.length
  | [], b => by rw [mgI_nil]; simp
  | x :: a, [] => by rw [mgI_nil']; simp
  | x :: a, y :: b => by
    rw [mgI_cons]; split
    · rw [List.length_cons, mgI_len a (y :: b)]; simp only [List.length_cons]; omega
    · rw [List.length_cons, mgI_len (x :: a) b]; simp only [List.length_cons]; omega
  termination_by a b => a.length + b.length

/-- what one takes of an ascending list, but for its last, is not more than its next. -/
theorem wsI_take_succ {l : List (Nat × Bool)} {z : Nat} (h : AscI l) (hz : ∀ y ∈ l, z ≤ y.1) {m : Nat} (hm : m < l.length) : z + wsI (l.take m) ≤ wsI (l.take (m + 1)) := by
  rw [List.take_add_one]
  have : l[m]? = some l[m] := List.getElem?_eq_getElem hm
  have h1 := hz l[m] (List.getElem_mem hm)
  rw [this]
  unfold wsI
  rw [List.map_append, List.sum_append]
  simp only [Option.toList, List.map_cons, List.map_nil, List.sum_cons, List.sum_nil]
  omega
theorem wsI_cons (x : Nat × Bool) (l : List (Nat × Bool)) : wsI (x :: l) = x.1 + wsI l := by simp [wsI]
theorem wsI_nil : wsI [] = 0 := rfl
/-- the first of a merged list weigh least. -/
theorem mgI_least : ∀ (X Y : List (Nat × Bool)) (a b : Nat), AscI X → AscI Y → a ≤ X.length → b ≤ Y.length → wsI ((mgI X Y).take (a + b)) ≤ wsI (X.take a) + wsI (Y.take b)
  | [], Y, a, b, _, _, ha, _ => by
    have : a = 0 := by simpa using ha
    subst this
    rw [mgI_nil]; simp [wsI]
  | x :: X, [], a, b, _, _, _, hb => by
    have : b = 0 := by simpa using hb
    subst this
    rw [mgI_nil']; simp [wsI]
  | x :: X, y :: Y, a, b, hX, hY, ha, hb => by
    have hX' := List.pairwise_cons.1 hX
    have hY' := List.pairwise_cons.1 hY
    rw [List.length_cons] at ha hb
    rw [mgI_cons]; split
    · rename_i hxy
      cases a with
      | succ a =>
        rw [show a + 1 + b = (a + b) + 1 by omega, List.take_succ_cons, List.take_succ_cons, wsI_cons, wsI_cons]
        have := mgI_least X (y :: Y) a b hX'.2 hY (by omega) (by rw [List.length_cons]; omega)
        omega
      | zero =>
        cases b with
        | zero => simp [wsI]
        | succ b =>
          rw [Nat.zero_add, List.take_succ_cons, wsI_cons, List.take_zero, wsI_nil]
          have h1 := mgI_least X (y :: Y) 0 b hX'.2 hY (Nat.zero_le _) (by rw [List.length_cons]; omega)
          rw [Nat.zero_add, List.take_zero, wsI_nil] at h1
          have h2 := wsI_take_succ (z := x.1) hY (fun z hz => by rcases List.mem_cons.1 hz with h | h; · rw [h]; exact hxy
                                                                 · exact Nat.le_trans hxy (hY'.1 z h)) (m := b) (by rw [List.length_cons]; omega)
          omega
    · rename_i hxy
      cases b with
      | succ b =>
        rw [show a + (b + 1) = (a + b) + 1 by omega, List.take_succ_cons, List.take_succ_cons, wsI_cons, wsI_cons]
        have := mgI_least (x :: X) Y a b hX hY'.2 (by rw [List.length_cons]; omega) (by omega)
        omega
      | zero =>
        cases a with
        | zero => simp [wsI]
        | succ a =>
          rw [Nat.add_zero, List.take_succ_cons, wsI_cons, List.take_zero, wsI_nil]
          have h1 := mgI_least (x :: X) Y a 0 hX hY'.2 (by rw [List.length_cons]; omega) (Nat.zero_le _)
          rw [Nat.add_zero, List.take_zero, wsI_nil] at h1
          have h2 := wsI_take_succ (z := y.1) hX (fun z hz => by rcases List.mem_cons.1 hz with h | h; · rw [h]; omega
                                                                 · have := hX'.1 z h; omega) (m := a) (by rw [List.length_cons]; omega)
          omega
  termination_by X Y => X.length + Y.length
/-- the first of a merged list: the first of both; a single that is not taken weighs more than what is taken of the packages. -/
theorem mgI_split : ∀ (X Y : List (Nat × Bool)) (m : Nat), AscI X → (∀ x ∈ X, x.2 = true) → (∀ y ∈ Y, y.2 = false) → m ≤ X.length + Y.length →
    ∃ a b, a + b = m ∧ a ≤ X.length ∧ b ≤ Y.length ∧ sgN ((mgI X Y).take m) = a ∧ wsI ((mgI X Y).take m) = wsI (X.take a) + wsI (Y.take b) ∧ (∀ x y, X[a]? = some x → ∀ j, j < b → AscI Y → Y[j]? = some y → y.1 < x.1) ∧ ∀ z ∈ X.take a, z ∈ (mgI X Y).take m
  | [], Y, m, _, _, hY, hm => by
    rw [mgI_nil]
    refine ⟨0, m, Nat.zero_add m, Nat.le_refl _, by simpa using hm, ?_, by simp [wsI], (fun x y hx => by simp at hx), fun z hz => by simp at hz⟩
    unfold sgN
    rw [List.countP_eq_zero]
    intro y hy
    simp [hY y (List.mem_of_mem_take hy)]
  | x :: X, [], m, _, hX, _, hm => by
    rw [mgI_nil']
    refine ⟨m, 0, rfl, by simpa using hm, Nat.le_refl _, ?_, by simp [wsI], (fun x y _ j hj => by cases hj), fun z hz => hz⟩
    unfold sgN
    rw [List.countP_eq_length.2 fun y hy => hX y (List.mem_of_mem_take hy), List.length_take]
    have : m ≤ (x :: X).length := by simpa using hm
    omega
  | x :: X, y :: Y, m, hXA, hX, hY, hm => by
    have hXA' := List.pairwise_cons.1 hXA
    cases m with
    | zero => exact ⟨0, 0, rfl, Nat.zero_le _, Nat.zero_le _, by simp [sgN], by simp [wsI], (fun x y _ j hj => by cases hj), fun z hz => by simp at hz⟩
    | succ m =>
      rw [List.length_cons, List.length_cons] at hm
      rw [mgI_cons]; split
      · rename_i hxy
        obtain ⟨a, b, h1, h2, h3, h4, h5, h6, h7⟩ := mgI_split X (y :: Y) m hXA'.2 (fun z hz => hX z (List.mem_cons_of_mem _ hz)) hY (by rw [List.length_cons]; omega)
        refine ⟨a + 1, b, by omega, by rw [List.length_cons]; omega, h3, ?_, ?_, fun x' y' hx' j hj hA hy' => ?_, fun z hz => ?_⟩
        · rw [List.take_succ_cons]; unfold sgN at h4 ⊢; rw [List.countP_cons, h4, if_pos (hX x (List.mem_cons_self ..))]
        · rw [List.take_succ_cons, List.take_succ_cons, wsI_cons, wsI_cons, h5]; omega
        · rw [List.getElem?_cons_succ] at hx'
          exact h6 x' y' hx' j hj hA hy'
        · rw [List.take_succ_cons] at hz ⊢
          rcases List.mem_cons.1 hz with h | h
          · rw [h]; exact List.mem_cons_self ..
          · exact List.mem_cons_of_mem _ (h7 z h)
      · rename_i hxy
        obtain ⟨a, b, h1, h2, h3, h4, h5, h6, h7⟩ := mgI_split (x :: X) Y m hXA hX (fun z hz => hY z (List.mem_cons_of_mem _ hz)) (by rw [List.length_cons]; omega)
        refine ⟨a, b + 1, by omega, h2, by rw [List.length_cons]; omega, ?_, ?_, fun x' y' hx' j hj hA hy' => ?_, fun z hz => ?_⟩
        · rw [List.take_succ_cons]; unfold sgN at h4 ⊢; rw [List.countP_cons, h4, if_neg (by rw [hY y (List.mem_cons_self ..)]; simp)]; rfl
        · rw [List.take_succ_cons, List.take_succ_cons, wsI_cons, wsI_cons, h5]; omega
        · have hA' := List.pairwise_cons.1 hA
          cases j with
          | succ j => rw [List.getElem?_cons_succ] at hy'; exact h6 x' y' hx' j (by omega) hA'.2 hy'
          | zero =>
            rw [List.getElem?_cons_zero] at hy'
            have hyy : y = y' := by injection hy'
            subst hyy
            have := List.mem_of_getElem? hx'
            rcases List.mem_cons.1 this with h | h
            · rw [h]; omega
            · have := hXA'.1 _ h; omega
        · rw [List.take_succ_cons]
          exact List.mem_cons_of_mem _ (h7 z hz)
  termination_by X Y => X.length + Y.length
theorem pkI_false : ∀ l : List (Nat × Bool), ∀ y ∈ pkI l, y.2 = false
  | x :: y :: l, z, h => by
    rw [pkI] at h
    rcases List.mem_cons.1 h with h | h
    · rw [h]
    · exact pkI_false l z h
  | [], z, h => by cases h
  | [x], z, h => by cases h
theorem pkI_len : ∀ l : List (Nat × Bool), (pkI l).length = l.length / 2
  | x :: y :: l => by rw [pkI, List.length_cons, pkI_len l, List.length_cons, List.length_cons]; omega
  | [] => by simp [pkI]
  | [x] => by simp [pkI]
theorem pkI_asc : ∀ l : List (Nat × Bool), AscI l → AscI (pkI l) ∧ ∀ x y, l[0]? = some x → l[1]? = some y → ∀ z ∈ pkI l, x.1 + y.1 ≤ z.1
  | [], _ => ⟨List.Pairwise.nil, fun _ _ h => by cases h⟩
  | [x], _ => ⟨List.Pairwise.nil, fun _ _ _ h => by cases h⟩
  | [x, y], _ => by
    refine ⟨by simp [pkI], fun x' y' hx hy z hz => ?_⟩
    have h1 : x = x' := by simpa using hx
    have h2 : y = y' := by simpa using hy
    subst h1; subst h2
    have hz' : z ∈ [((x.1 + y.1, false) : Nat × Bool)] := by simpa [pkI] using hz
    rw [List.mem_singleton.1 hz']; exact Nat.le_refl _
  | [x, y, u], _ => by
    refine ⟨by simp [pkI], fun x' y' hx hy z hz => ?_⟩
    have h1 : x = x' := by simpa using hx
    have h2 : y = y' := by simpa using hy
    subst h1; subst h2
    have hz' : z ∈ [((x.1 + y.1, false) : Nat × Bool)] := by simpa [pkI] using hz
    rw [List.mem_singleton.1 hz']; exact Nat.le_refl _
  | x :: y :: u :: v :: l, h => by
    have h' := List.pairwise_cons.1 h
    have h2' := List.pairwise_cons.1 h'.2
    have h3' := List.pairwise_cons.1 h2'.2
    obtain ⟨i1, i2⟩ := pkI_asc (u :: v :: l) h2'.2
    have hxu := h'.1 u (List.mem_cons_of_mem _ (List.mem_cons_self ..))
    have hyv := h2'.1 v (List.mem_cons_of_mem _ (List.mem_cons_self ..))
    have hlow : ∀ z ∈ pkI (u :: v :: l), x.1 + y.1 ≤ z.1 := fun z hz => by have := i2 u v rfl rfl z hz; omega
    refine ⟨?_, fun x' y' hx hy z hz => ?_⟩
    · rw [pkI]; exact List.pairwise_cons.2 ⟨hlow, i1⟩
    · have h1 : x = x' := by simpa using hx
      have h2 : y = y' := by simpa using hy
      subst h1; subst h2
      rw [pkI] at hz
      rcases List.mem_cons.1 hz with h | h
      · rw [h]; exact Nat.le_refl _
      · exact hlow z h
theorem pkI_sum : ∀ (l : List (Nat × Bool)) (k : Nat), 2 * k ≤ l.length → wsI ((pkI l).take k) = wsI (l.take (2 * k))
  | l, 0, _ => by simp [wsI]
  | [], k + 1, h => by simp at h
  | [x], k + 1, h => by simp only [List.length_cons, List.length_nil] at h; omega
  | x :: y :: l, k + 1, h => by
    rw [pkI, show 2 * (k + 1) = 2 * k + 1 + 1 by omega, List.take_succ_cons, List.take_succ_cons, List.take_succ_cons, wsI_cons, wsI_cons, wsI_cons, pkI_sum l k (by simp only [List.length_cons] at h; omega)]
    omega
/-- what is taken into packages is no more than its package. -/
theorem pkI_at : ∀ (l : List (Nat × Bool)) (k b : Nat) (x : Nat × Bool), l[k]? = some x → k < 2 * b → 2 * b ≤ l.length → ∃ y, (pkI l)[k / 2]? = some y ∧ x.1 ≤ y.1
  | [], k, b, x, h, _, _ => by simp at h
  | [z], k, b, x, h, h1, h2 => by simp only [List.length_cons, List.length_nil] at h2; omega
  | u :: v :: l, k, b, x, h, h1, h2 => by
    match k, h with
    | 0, h => have : u = x := by simpa using h
              subst this; exact ⟨_, rfl, Nat.le_add_right _ _⟩
    | 1, h => have : v = x := by simpa using h
              subst this; exact ⟨_, rfl, Nat.le_add_left _ _⟩
    | k + 2, h =>
      obtain ⟨y, hy, hxy⟩ := pkI_at l k (b - 1) x (by simpa using h) (by omega) (by simp only [List.length_cons] at h2; omega)
      refine ⟨y, ?_, hxy⟩
      rw [pkI, show (k + 2) / 2 = k / 2 + 1 by omega, List.getElem?_cons_succ]; exact hy

theorem sgI_true (A : List Nat) : ∀ x ∈ sgI A, x.2 = true := fun x h => by
  obtain ⟨a, _, rfl⟩ := List.mem_map.1 h; rfl
theorem sgI_len (A : List Nat) : (sgI A).length = A.length := List.length_map ..
theorem sgI_asc {A : List Nat} (h : A.Pairwise (· ≤ ·)) : AscI (sgI A) := List.pairwise_map.2 h
theorem sgI_take (A : List Nat) (a : Nat) : wsI ((sgI A).take a) = (A.take a).sum := by
  unfold wsI sgI
  rw [← List.map_take, List.map_map]
  show ((A.take a).map fun x => x).sum = _
  rw [List.map_id']
theorem lvI_asc {A : List Nat} (h : A.Pairwise (· ≤ ·)) : ∀ t, AscI (lvI A t)
  | 0 => List.Pairwise.nil
  | t + 1 => mgI_asc _ _ (sgI_asc h) (pkI_asc _ (lvI_asc h t)).1
theorem lvI_len (A : List Nat) (t : Nat) : (lvI A (t + 1)).length = A.length + (lvI A t).length / 2 := by
  rw [lvI, mgI_len, sgI_len, pkI_len]
theorem lvI_room (A : List Nat) : ∀ t, 2 * A.length * (2 ^ t - 1) < ((lvI A t).length + 1) * 2 ^ t
  | 0 => by simp [lvI]
  | t + 1 => by
    have ih := lvI_room A t
    rw [lvI_len]
    have hp : 0 < 2 ^ t := Nat.two_pow_pos t
    have h2 : 2 ^ (t + 1) = 2 * 2 ^ t := Nat.pow_succ'
    rw [h2]
    generalize 2 ^ t = P at *
    generalize (lvI A t).length = L at *
    generalize A.length = n at *
    have h3 : 2 * n + L + 1 ≤ 2 * (n + L / 2 + 1) := by omega
    have h4 := Nat.mul_le_mul_right P h3
    have h5 : (n + L / 2 + 1) * (2 * P) = 2 * (n + L / 2 + 1) * P := by rw [← Nat.mul_assoc, Nat.mul_comm (n + L / 2 + 1) 2]
    rw [h5]
    refine Nat.lt_of_lt_of_le ?_ h4
    obtain ⟨Q, rfl⟩ : ∃ Q, P = Q + 1 := ⟨P - 1, by omega⟩
    rw [show 2 * (Q + 1) - 1 = (Q + 1) + Q by omega]
    have : (2 * n + L + 1) * (Q + 1) = 2 * n * (Q + 1) + (L + 1) * (Q + 1) := by rw [Nat.add_assoc (2 * n), Nat.add_mul]
    rw [this, Nat.mul_add]
    rw [show Q + 1 - 1 = Q from rfl] at ih
    omega
theorem lvI_has {A : List Nat} {t : Nat} (h : A.length ≤ 2 ^ (t + 1)) : 2 * A.length - 2 ≤ (lvI A (t + 1)).length := by
  have h1 := lvI_room A (t + 1)
  have hp : 0 < 2 ^ (t + 1) := Nat.two_pow_pos _
  generalize (lvI A (t + 1)).length = L at *
  generalize A.length = n at *
  generalize 2 ^ (t + 1) = P at *
  rcases Nat.lt_or_ge L (2 * n - 2) with hc | hc
  · exfalso
    have h2 : (L + 1) * P ≤ (2 * n - 2) * P := Nat.mul_le_mul_right _ hc
    have h3 : 2 * n * (P - 1) = 2 * n * P - 2 * n := by rw [Nat.mul_sub, Nat.mul_one]
    have h4 : (2 * n - 2) * P = 2 * n * P - 2 * P := by rw [Nat.sub_mul]
    have h5 : 2 * P ≤ 2 * n * P := Nat.mul_le_mul_right _ (by omega)
    omega
  · exact hc

/-! The first of a level weigh least. -/
def vlI (t : Nat) (c : List Nat) : Nat := (c.map fun x => 2 ^ t - 2 ^ (t - x)).sum
theorem takeI_succ {a : Nat} : ∀ {l : List Nat}, (∀ y ∈ l, a ≤ y) → ∀ {m : Nat}, m < l.length → a + (l.take m).sum ≤ (l.take (m + 1)).sum
  | l, h, m, hm => by
    have h1 := h l[m] (List.getElem_mem hm)
    rw [List.take_add_one, List.getElem?_eq_getElem hm, List.sum_append]
    simp only [Option.toList, List.sum_cons, List.sum_nil]
    omega
theorem takeI_mono (l : List Nat) : ∀ {a b : Nat}, a ≤ b → (l.take a).sum ≤ (l.take b).sum := fun {a b} h => by
  have : l.take a = (l.take b).take a := by rw [List.take_take, Nat.min_eq_left h]
  rw [this]
  conv => rhs; rw [← List.take_append_drop a (l.take b), List.sum_append]
  exact Nat.le_add_right _ _
theorem sub_least : ∀ A c : List Nat, A.length = c.length → A.Pairwise (· ≤ ·) → (A.take (c.countP (0 < ·))).sum ≤ csP (A.zip (c.map (min · 1)))
  | [], c, _, _ => by simp [csP]
  | a :: A, [], h, _ => by simp at h
  | a :: A, x :: c, h, hA => by
    have hA' := List.pairwise_cons.1 hA
    have hl : A.length = c.length := by simpa using h
    have ih := sub_least A c hl hA'.2
    rw [List.countP_cons, List.map_cons, List.zip_cons_cons, csP_cons]
    rcases Nat.eq_zero_or_pos x with hx | hx
    · subst hx
      simp only [Nat.lt_irrefl, decide_false, Bool.false_eq_true, if_false, Nat.add_zero, Nat.zero_min, Nat.mul_zero, Nat.zero_add]
      refine Nat.le_trans ?_ ih
      have hc : c.countP (0 < ·) ≤ c.length := List.countP_le_length
      generalize c.countP (0 < ·) = k at *
      cases k with
      | zero => simp
      | succ k => rw [List.take_succ_cons, List.sum_cons]; exact takeI_succ hA'.1 (by omega)
    · simp only [hx, decide_true, if_true]
      rw [List.take_succ_cons, List.sum_cons, show min x 1 = 1 by omega, Nat.mul_one]
      exact Nat.add_le_add_left ih a
theorem csP_part : ∀ A c : List Nat, A.length = c.length → csP (A.zip c) = csP (A.zip (c.map (min · 1))) + csP (A.zip (c.map (· - 1)))
  | [], c, _ => by simp [csP]
  | a :: A, [], h => by simp at h
  | a :: A, x :: c, h => by
    rw [List.map_cons, List.map_cons, List.zip_cons_cons, List.zip_cons_cons, List.zip_cons_cons, csP_cons, csP_cons, csP_cons, csP_part A c (by simpa using h)]
    have : a * x = a * min x 1 + a * (x - 1) := by rw [← Nat.mul_add]; congr 1; omega
    simp only
    omega
theorem vlI_part (t : Nat) : ∀ c : List Nat, (∀ x ∈ c, x ≤ t + 1) → vlI (t + 1) c = c.countP (0 < ·) * 2 ^ t + vlI t (c.map (· - 1))
  | [], _ => by simp [vlI]
  | x :: c, h => by
    have ih := vlI_part t c fun y hy => h y (List.mem_cons_of_mem _ hy)
    have hx := h x (List.mem_cons_self ..)
    have e1 : vlI (t + 1) (x :: c) = (2 ^ (t + 1) - 2 ^ (t + 1 - x)) + vlI (t + 1) c := by simp [vlI]
    have e2 : vlI t ((x :: c).map (· - 1)) = (2 ^ t - 2 ^ (t - (x - 1))) + vlI t (c.map (· - 1)) := by simp [vlI]
    rw [e1, e2, ih, List.countP_cons]
    rcases Nat.eq_zero_or_pos x with h0 | h0
    · subst h0; simp
    · simp only [h0, decide_true, if_true]
      have h1 : t + 1 - x = t - (x - 1) := by omega
      have h2 : 2 ^ (t - (x - 1)) ≤ 2 ^ t := Nat.pow_le_pow_right (by omega) (by omega)
      have h3 : 2 ^ (t + 1) = 2 * 2 ^ t := Nat.pow_succ'
      rw [h1, h3, Nat.add_mul, Nat.one_mul]
      omega
theorem vlI_le (t : Nat) : ∀ c : List Nat, vlI t c ≤ c.length * (2 ^ t - 1)
  | [] => by simp [vlI]
  | x :: c => by
    have ih := vlI_le t c
    have e1 : vlI t (x :: c) = (2 ^ t - 2 ^ (t - x)) + vlI t c := by simp [vlI]
    have : 0 < 2 ^ (t - x) := Nat.two_pow_pos _
    rw [e1, List.length_cons, Nat.add_mul, Nat.one_mul]
    omega
theorem vlI_zero (t : Nat) : ∀ c : List Nat, 0 ∈ c → vlI t c ≤ (c.length - 1) * (2 ^ t - 1)
  | [], h => by cases h
  | x :: c, h => by
    have e1 : vlI t (x :: c) = (2 ^ t - 2 ^ (t - x)) + vlI t c := by simp [vlI]
    have hp : 0 < 2 ^ (t - x) := Nat.two_pow_pos _
    rw [e1, List.length_cons, Nat.add_sub_cancel]
    rcases List.mem_cons.1 h with h | h
    · subst h; rw [Nat.sub_zero, Nat.sub_self, Nat.zero_add]; exact vlI_le t c
    · have ih := vlI_zero t c h
      have hl : 0 < c.length := List.length_pos_of_mem h
      obtain ⟨k, hk⟩ : ∃ k, c.length = k + 1 := ⟨c.length - 1, by omega⟩
      rw [hk] at ih ⊢
      rw [Nat.add_mul, Nat.one_mul]
      rw [Nat.add_sub_cancel] at ih
      omega
/-- no choice of as much room weighs less than the first of a level. -/
theorem pk_best {A : List Nat} (hA : A.Pairwise (· ≤ ·)) : ∀ (t m : Nat) (c : List Nat), A.length = c.length → (∀ x ∈ c, x ≤ t) → m * 2 ^ t ≤ 2 * vlI t c → wsI ((lvI A t).take m) ≤ csP (A.zip c)
  | 0, m, c, _, _, _ => by simp [lvI, wsI]
  | t + 1, m, c, hl, hb, hv => by
    have hs := sub_least A c hl hA
    have hc := csP_part A c hl
    have hp := vlI_part t c hb
    have hcl : c.countP (0 < ·) ≤ c.length := List.countP_le_length
    rw [lvI]
    generalize hsd : c.countP (0 < ·) = s at *
    rcases Nat.lt_or_ge s m with h | h
    · have hq : 0 < 2 ^ t := Nat.two_pow_pos t
      have h3 : 2 ^ (t + 1) = 2 * 2 ^ t := Nat.pow_succ'
      have hv' : 2 * (m - s) * 2 ^ t ≤ 2 * vlI t (c.map (· - 1)) := by
        rw [hp, h3] at hv
        rw [Nat.mul_assoc, Nat.sub_mul]
        have e : m * (2 * 2 ^ t) = 2 * (m * 2 ^ t) := by rw [Nat.mul_left_comm]
        rw [e] at hv
        omega
      have hroom : 2 * (m - s) ≤ (lvI A t).length := by
        have h1 := lvI_room A t
        have h2 := vlI_le t (c.map (· - 1))
        rw [List.length_map, ← hl] at h2
        have h4 : 2 * (m - s) * 2 ^ t < ((lvI A t).length + 1) * 2 ^ t := by
          refine Nat.lt_of_le_of_lt (Nat.le_trans hv' (Nat.mul_le_mul_left 2 h2)) ?_
          rw [← Nat.mul_assoc]; exact h1
        have := Nat.lt_of_mul_lt_mul_right h4
        omega
      have ih := pk_best hA t (2 * (m - s)) (c.map (· - 1)) (by rw [List.length_map]; exact hl) (fun x hx => by
        obtain ⟨y, hy, rfl⟩ := List.mem_map.1 hx
        have := hb y hy
        show y - 1 ≤ t
        omega) hv'
      have h5 := mgI_least (sgI A) (pkI (lvI A t)) s (m - s) (sgI_asc hA) (pkI_asc _ (lvI_asc hA t)).1 (by rw [sgI_len]; omega) (by rw [pkI_len]; omega)
      rw [show s + (m - s) = m by omega, sgI_take, pkI_sum _ _ hroom] at h5
      omega
    · have h5 := mgI_least (sgI A) (pkI (lvI A t)) m 0 (sgI_asc hA) (pkI_asc _ (lvI_asc hA t)).1 (by rw [sgI_len]; omega) (Nat.zero_le _)
      rw [Nat.add_zero, sgI_take, List.take_zero, wsI_nil, Nat.add_zero] at h5
      have h6 := takeI_mono A h
      omega
end Go.Proofs.Gv
