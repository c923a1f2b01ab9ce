/- Limited lengths, plainly: they fit, have the least cost, and no others within the limit that fit have less. -/
import Derived.Test.YtglgiofjgfbfgaaLim3P
import Derived.Test.YtglgiofjgfbfgaaHuf
set_option linter.unusedSimpArgs false
set_option linter.unusedVariables false
namespace Go.Proofs.Gv

theorem insR_perm (W : Nat → Nat) (x : Nat) : ∀ l, (insR W x l).Perm (x :: l)
  | [] => .refl _
  | y :: r => by
    unfold insR
    split
    · exact ((insR_perm W x r).cons y).trans (.swap x y r)
    · exact .refl _
theorem ordR_perm (W : Nat → Nat) : ∀ n, (ordR W n).Perm (List.range n)
  | 0 => .refl _
  | n + 1 => by
    unfold ordR
    rw [List.range_succ]
    exact ((insR_perm W n _).trans ((ordR_perm W n).cons n)).trans (List.perm_append_comm (l₁ := [n]) (l₂ := List.range n))
theorem ordL_perm (Ws : List Nat) : (ordL Ws).Perm (List.range Ws.length) := (List.reverse_perm _).trans (ordR_perm _ _)
/-- Greater ones first. -/
def Desc : List Nat → Prop
  | [] => True
  | x :: l => (∀ y ∈ l, y ≤ x) ∧ Desc l
theorem insR_asc (W : Nat → Nat) (x : Nat) : ∀ l : List Nat, l.Pairwise (fun a b => W a ≤ W b) → (insR W x l).Pairwise (fun a b => W a ≤ W b)
  | [], _ => by simp [insR]
  | y :: r, h => by
    rw [List.pairwise_cons] at h
    unfold insR
    split
    · rename_i hlt
      rw [List.pairwise_cons]
      refine ⟨fun z hz => ?_, insR_asc W x r h.2⟩
      rcases (insR_mem W x z r).1 hz with rfl | hz
      · omega
      · exact h.1 z hz
    · rename_i hge
      rw [List.pairwise_cons]
      refine ⟨fun z hz => ?_, List.pairwise_cons.2 h⟩
      rcases List.mem_cons.1 hz with rfl | hz
      · omega
      · have := h.1 z hz; omega
theorem ordR_asc (W : Nat → Nat) : ∀ n, (ordR W n).Pairwise (fun a b => W a ≤ W b)
  | 0 => List.Pairwise.nil
  | n + 1 => by unfold ordR; exact insR_asc W n _ (ordR_asc W n)
theorem desc_of : ∀ {l : List Nat}, l.Pairwise (fun a b => b ≤ a) → Desc l
  | [], _ => trivial
  | x :: l, h => by
    rw [List.pairwise_cons] at h
    exact ⟨fun y hy => h.1 y hy, desc_of h.2⟩
theorem owL_desc (Ws : List Nat) : Desc (owL Ws) := by
  refine desc_of ?_
  unfold owL ordL
  rw [List.pairwise_map, List.pairwise_reverse]
  exact ordR_asc _ _
/- Lengths in order: the cost of pairs. -/
/-- A length put into ascending ones. -/
def insA (a : Nat) : List Nat → List Nat
  | [] => [a]
  | b :: s => if a ≤ b then a :: b :: s else b :: insA a s
def srtA : List Nat → List Nat
  | [] => []
  | a :: l => insA a (srtA l)
theorem insA_perm (a : Nat) : ∀ l, (insA a l).Perm (a :: l)
  | [] => .refl _
  | b :: s => by
    unfold insA
    split
    · exact .refl _
    · exact ((insA_perm a s).cons b).trans (.swap a b s)
theorem srtA_perm : ∀ l, (srtA l).Perm l
  | [] => .refl _
  | a :: l => (insA_perm a (srtA l)).trans ((srtA_perm l).cons a)
theorem insA_asc (a : Nat) : ∀ l : List Nat, l.Pairwise (· ≤ ·) → (insA a l).Pairwise (· ≤ ·)
  | [], _ => by simp [insA]
  | b :: s, h => by
    rw [List.pairwise_cons] at h
    unfold insA
    split
    · rename_i hle
      rw [List.pairwise_cons]
      refine ⟨fun z hz => ?_, List.pairwise_cons.2 h⟩
      rcases List.mem_cons.1 hz with rfl | hz
      · exact hle
      · exact Nat.le_trans hle (h.1 z hz)
    · rename_i hlt
      rw [List.pairwise_cons]
      refine ⟨fun z hz => ?_, insA_asc a s h.2⟩
      rcases List.mem_cons.1 ((insA_perm a s).mem_iff.1 hz) with rfl | hz
      · omega
      · exact h.1 z hz
theorem srtA_asc : ∀ l, (srtA l).Pairwise (· ≤ ·)
  | [] => List.Pairwise.nil
  | a :: l => insA_asc a _ (srtA_asc l)
theorem insA_cost (a : Nat) : ∀ (s O : List Nat) (o : Nat), Desc (o :: O) → O.length = s.length → csP ((o :: O).zip (insA a s)) ≤ o * a + csP (O.zip s)
  | [], O, o, _, hl => by
    unfold insA
    cases O with
    | nil => simp [csP]
    | cons x O => cases hl
  | b :: s, [], o, _, hl => by cases hl
  | b :: s, x :: O, o, hd, hl => by
    have hxo : x ≤ o := hd.1 x (List.mem_cons_self ..)
    unfold insA
    split
    · rw [List.zip_cons_cons, csP_cons]
      exact Nat.le_refl _
    · rename_i hlt
      have ih := insA_cost a s O x hd.2 (by simpa using hl)
      rw [List.zip_cons_cons, csP_cons, List.zip_cons_cons, csP_cons]
      show o * b + csP ((x :: O).zip (insA a s)) ≤ o * a + (x * b + csP (O.zip s))
      obtain ⟨t, rfl⟩ : ∃ t, o = x + t := ⟨o - x, by omega⟩
      have h1 : t * b ≤ t * a := Nat.mul_le_mul_left t (by omega)
      rw [Nat.add_mul, Nat.add_mul]
      omega
/-- In ascending order they cost least. -/
theorem srtA_cost : ∀ (l O : List Nat), Desc O → O.length = l.length → csP (O.zip (srtA l)) ≤ csP (O.zip l)
  | [], O, _, _ => by simp [srtA]
  | a :: l, [], _, h => by cases h
  | a :: l, o :: O, hd, hl => by
    have hl2 : O.length = l.length := by simpa using hl
    have h1 := srtA_cost l O hd.2 hl2
    have h2 := insA_cost a (srtA l) O o hd (by rw [(srtA_perm l).length_eq]; exact hl2)
    rw [List.zip_cons_cons, csP_cons]
    show csP ((o :: O).zip (insA a (srtA l))) ≤ o * a + csP (O.zip l)
    omega
/-- What lengths take at depth M. -/
def krL (M : Nat) (d : List Nat) : Nat := (d.map fun x => 2 ^ (M - x)).sum
theorem krL_perm {M : Nat} {a b : List Nat} (h : a.Perm b) : krL M a = krL M b := (h.map _).sum_nat
theorem krL_app (M : Nat) (a b : List Nat) : krL M (a ++ b) = krL M a + krL M b := by simp [krL]
theorem krL_rep (M j p : Nat) : krL M (List.replicate p j) = p * 2 ^ (M - j) := by
  unfold krL
  rw [List.map_replicate, List.sum_replicate_nat]
theorem krL_le {M j : Nat} : ∀ {d : List Nat}, (∀ x ∈ d, j ≤ x) → krL M d ≤ d.length * 2 ^ (M - j)
  | [], _ => by simp [krL]
  | x :: d, h => by
    have ih := krL_le (M := M) (j := j) (d := d) fun y hy => h y (List.mem_cons_of_mem _ hy)
    have hx := h x (List.mem_cons_self ..)
    have h2 : 2 ^ (M - x) ≤ 2 ^ (M - j) := Nat.pow_le_pow_right (by decide) (by omega)
    show 2 ^ (M - x) + krL M d ≤ (d.length + 1) * 2 ^ (M - j)
    rw [Nat.add_mul, Nat.one_mul]
    omega
theorem csP_zip_app (A B a b : List Nat) (h : A.length = a.length) : csP ((A ++ B).zip (a ++ b)) = csP (A.zip a) + csP (B.zip b) := by
  rw [List.zip_append h, csP_append]
theorem csP_rep (j : Nat) : ∀ (A : List Nat) (p : Nat), A.length = p → csP (A.zip (List.replicate p j)) = A.sum * j
  | [], p, h => by simp [csP]
  | x :: A, 0, h => by cases h
  | x :: A, p + 1, h => by
    rw [List.replicate_succ, List.zip_cons_cons, csP_cons, csP_rep j A p (by simpa using h), List.sum_cons, Nat.add_mul]
/-- The lengths fit. -/
theorem lenG_fit (O : List Nat) (n : Nat) : ∀ r j k i, i ≤ n → tb O n r k i ≠ none → krL (j + r) (lenG O n r j k i) ≤ k * 2 ^ r
  | 0, j, k, i, hi, hs => by
    unfold lenG
    rw [krL_rep, Nat.add_zero, Nat.sub_self]
    have := pnum_le O n 0 k i
    omega
  | r + 1, j, k, i, hi, hs => by
    by_cases h : i < n
    · rw [lenG_succ O h, krL_app, krL_rep]
      obtain ⟨p, hp⟩ : ∃ p, pnum O n (r + 1) k i = p := ⟨_, rfl⟩
      have hle := pnum_le O n (r + 1) k i
      have hs2 := pnum_some O h hs
      rw [hp] at hle hs2 ⊢
      have ih := lenG_fit O n r (j + 1) (min (2 * (k - p)) n) (i + p) (by omega) hs2
      rw [show j + 1 + r = j + (r + 1) by omega] at ih
      rw [show j + (r + 1) - j = r + 1 by omega]
      have h2 : min (2 * (k - p)) n * 2 ^ r ≤ 2 * (k - p) * 2 ^ r := Nat.mul_le_mul_right _ (Nat.min_le_left _ _)
      have h3 : 2 * (k - p) * 2 ^ r = (k - p) * 2 ^ (r + 1) := by rw [Nat.pow_succ, Nat.mul_comm 2 (k - p), Nat.mul_assoc, Nat.mul_comm 2]
      have h4 : p * 2 ^ (r + 1) + (k - p) * 2 ^ (r + 1) = k * 2 ^ (r + 1) := by rw [← Nat.add_mul]; congr 1; omega
      omega
    · obtain rfl : i = n := by omega
      rw [lenG_end]
      simp [krL]
/-- They cost what the table says. -/
theorem lenG_cost (O : List Nat) (n : Nat) (hO : O.length = n) : ∀ r j k i, i ≤ n → ∀ x, tb O n r k i = some x → csP ((O.drop i).zip (lenG O n r j k i)) = (O.drop i).sum * j + x
  | 0, j, k, i, hi, x, hx => by
    by_cases h : i < n
    · have hp := pnum_last O h (by rw [hx]; simp)
      unfold lenG
      rw [hp, csP_rep j _ _ (by rw [List.length_drop, hO])]
      unfold tb at hx
      rw [if_pos h] at hx
      split at hx
      · cases hx
      · cases hx; rfl
    · obtain rfl : i = n := by omega
      rw [tb_end] at hx
      cases hx
      rw [List.drop_of_length_le (by omega)]
      simp [csP]
  | r + 1, j, k, i, hi, x, hx => by
    by_cases h : i < n
    · rw [lenG_succ O h]
      have hpi := pnum_is O (r := r) (k := k) h
      obtain ⟨p, hp⟩ : ∃ p, pnum O n (r + 1) k i = p := ⟨_, rfl⟩
      have hle := pnum_le O n (r + 1) k i
      rw [hp] at hle hpi ⊢
      rw [hx] at hpi
      unfold plc at hpi
      cases hy : tb O n r (min (2 * (k - p)) n) (i + p) with
      | none => rw [hy] at hpi; cases hpi
      | some y =>
        rw [hy] at hpi
        have e : (O.drop (i + p)).sum + y = x := by simpa using hpi
        have ih := lenG_cost O n hO r (j + 1) (min (2 * (k - p)) n) (i + p) (by omega) y hy
        have hsp : O.drop i = (O.drop i).take p ++ O.drop (i + p) := by rw [← List.drop_drop, List.take_append_drop]
        have hl : ((O.drop i).take p).length = p := by rw [List.length_take, List.length_drop]; omega
        rw [hsp, csP_zip_app _ _ _ _ (by rw [hl, List.length_replicate]), csP_rep j _ p hl, ih, List.sum_append, Nat.add_mul, Nat.mul_add, Nat.mul_one]
        omega
    · obtain rfl : i = n := by omega
      rw [tb_end] at hx
      cases hx
      rw [List.drop_of_length_le (by omega)]
      simp [csP]
/-- The first ones of ascending lengths that are j. -/
theorem split_j (j : Nat) : ∀ d : List Nat, d.Pairwise (· ≤ ·) → (∀ x ∈ d, j ≤ x) → ∃ p r, d = List.replicate p j ++ r ∧ (∀ x ∈ r, j + 1 ≤ x) ∧ r.Pairwise (· ≤ ·)
  | [], _, _ => ⟨0, [], rfl, fun x hx => (by cases hx), List.Pairwise.nil⟩
  | x :: d, h, hj => by
    rw [List.pairwise_cons] at h
    by_cases hx : x = j
    · subst hx
      obtain ⟨p, r, h1, h2, h3⟩ := split_j x d h.2 fun y hy => hj y (List.mem_cons_of_mem _ hy)
      exact ⟨p + 1, r, by rw [h1]; rfl, h2, h3⟩
    · have hxj := hj x (List.mem_cons_self ..)
      refine ⟨0, x :: d, rfl, fun y hy => ?_, List.pairwise_cons.2 h⟩
      rcases List.mem_cons.1 hy with rfl | hy
      · omega
      · have := h.1 y hy; omega
/-- No ascending lengths that fit cost less. -/
theorem tb_best (O : List Nat) (n : Nat) (hO : O.length = n) : ∀ r j k i (d : List Nat), i ≤ n → d.length = n - i → d.Pairwise (· ≤ ·) → (∀ x ∈ d, j ≤ x ∧ x ≤ j + r) → krL (j + r) d ≤ k * 2 ^ r →
    ∃ x, tb O n r k i = some x ∧ (O.drop i).sum * j + x ≤ csP ((O.drop i).zip d)
  | 0, j, k, i, d, hi, hd, ha, hb, hk => by
    have hdj : d = List.replicate (n - i) j := by
      rw [← hd]
      exact List.eq_replicate_of_mem fun x hx => by have := hb x hx; omega
    rw [hdj, krL_rep, Nat.add_zero, Nat.sub_self] at hk
    refine ⟨0, ?_, ?_⟩
    · unfold tb
      split
      · rw [if_neg (by simp at hk; omega)]
      · rfl
    · rw [hdj, csP_rep j _ _ (by rw [List.length_drop, hO])]
      exact Nat.le_refl _
  | r + 1, j, k, i, d, hi, hd, ha, hb, hk => by
    by_cases h : i < n
    · obtain ⟨p, s, rfl, hs1, hs2⟩ := split_j j d ha fun x hx => (hb x hx).1
      rw [List.length_append, List.length_replicate] at hd
      rw [krL_app, krL_rep, show j + (r + 1) - j = r + 1 by omega] at hk
      have hpk : p ≤ k := by
        have h1 : p * 2 ^ (r + 1) ≤ k * 2 ^ (r + 1) := by omega
        exact Nat.le_of_mul_le_mul_right h1 (Nat.pow_pos (by decide))
      have hk2 : krL (j + 1 + r) s ≤ min (2 * (k - p)) n * 2 ^ r := by
        rw [show j + (r + 1) = j + 1 + r by omega] at hk
        have h3 : 2 * (k - p) * 2 ^ r = (k - p) * 2 ^ (r + 1) := by rw [Nat.pow_succ, Nat.mul_comm 2 (k - p), Nat.mul_assoc, Nat.mul_comm 2]
        have h4 : p * 2 ^ (r + 1) + (k - p) * 2 ^ (r + 1) = k * 2 ^ (r + 1) := by rw [← Nat.add_mul]; congr 1; omega
        by_cases hmn : 2 * (k - p) ≤ n
        · rw [Nat.min_eq_left hmn]; omega
        · rw [Nat.min_eq_right (by omega)]
          have h5 := krL_le (M := j + 1 + r) (j := j + 1) (d := s) hs1
          rw [show j + 1 + r - (j + 1) = r by omega] at h5
          exact Nat.le_trans h5 (Nat.mul_le_mul_right _ (by omega))
      obtain ⟨y, hy, hc⟩ := tb_best O n hO r (j + 1) (min (2 * (k - p)) n) (i + p) s (by omega) (by omega) hs2 (fun x hx => ⟨hs1 x hx, by have := (hb x (List.mem_append_right _ hx)).2; omega⟩) hk2
      have hpl : plc O n r k i p = some ((O.drop (i + p)).sum + y) := by unfold plc; rw [hy]; rfl
      obtain ⟨x, hx1, hx2⟩ := leastF_le hpl (min k (n - i) + 1) (by omega)
      refine ⟨x, by rw [tb_succ O h]; exact hx1, ?_⟩
      have hsp : O.drop i = (O.drop i).take p ++ O.drop (i + p) := by rw [← List.drop_drop, List.take_append_drop]
      have hl : ((O.drop i).take p).length = p := by rw [List.length_take, List.length_drop]; omega
      rw [hsp, csP_zip_app _ _ _ _ (by rw [hl, List.length_replicate]), csP_rep j _ p hl, List.sum_append, Nat.add_mul]
      rw [Nat.mul_add, Nat.mul_one] at hc
      omega
    · obtain rfl : i = n := by omega
      exact ⟨0, tb_end O i (r + 1) k, by rw [List.drop_of_length_le (by omega)]; simp⟩
end Go.Proofs.Gv
