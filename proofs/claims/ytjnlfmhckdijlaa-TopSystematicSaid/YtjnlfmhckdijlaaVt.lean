/- Texts joined. -/
set_option linter.unusedSimpArgs false
set_option linter.unusedVariables false
namespace Go.Proofs.Gv
/-- the sum of the places of the letters 1 -/
def vtS : List Bool → Nat
  | [] => 0
  | b :: l => (b :: l).count true + vtS l
theorem vtS_app (p q : List Bool) : vtS (p ++ q) = vtS p + p.length * q.count true + vtS q := by
  induction p with
  | nil => simp [vtS]
  | cons b p ih =>
    show (b :: (p ++ q)).count true + vtS (p ++ q) = (b :: p).count true + vtS p + (b :: p).length * q.count true + vtS q
    rw [ih, List.length_cons, List.count_cons, List.count_cons, List.count_append, Nat.succ_mul]
    omega
/-- what a letter put in adds -/
theorem vtS_ins (p q : List Bool) (c : Bool) : vtS (p ++ c :: q) = vtS (p ++ q) + (q.count true + if c then p.length + 1 else 0) := by
  rw [vtS_app, vtS_app]
  show vtS p + p.length * (c :: q).count true + ((c :: q).count true + vtS q) = _
  rw [List.count_cons]
  cases c
  · simp; omega
  · simp [Nat.mul_add]; omega
theorem cnt_len (l : List Bool) : l.count true + l.count false = l.length := by
  induction l with
  | nil => rfl
  | cons b l ih => cases b <;> simp <;> omega
theorem all_of_cnt {l : List Bool} {b : Bool} (h : l.count (!b) = 0) : l = List.replicate l.length b := by
  rw [List.eq_replicate_iff]
  refine ⟨rfl, fun x hx => ?_⟩
  have := List.count_eq_zero.1 h
  cases b <;> cases x <;> first | rfl | exact absurd hx this
theorem rep_swap (k : Nat) (b : Bool) (q : List Bool) : b :: (List.replicate k b ++ q) = List.replicate k b ++ b :: q := by
  induction k with
  | zero => rfl
  | succ k ih => rw [List.replicate_succ, List.cons_append, ih]; rfl
/-- a letter put in within a run of its own gives the same word -/
theorem ins_same {p q p' q' : List Bool} {b : Bool} (h : p ++ q = p' ++ q') (hc : q.count (!b) = q'.count (!b)) : p ++ b :: q = p' ++ b :: q' := by
  rcases List.append_eq_append_iff.1 h with ⟨r, rfl, rfl⟩ | ⟨r, rfl, rfl⟩
  · have hr : r.count (!b) = 0 := by rw [List.count_append] at hc; omega
    rw [all_of_cnt hr, List.append_assoc, rep_swap]
  · have hr : r.count (!b) = 0 := by rw [List.count_append] at hc; omega
    rw [all_of_cnt hr, List.append_assoc, rep_swap]
/-- a word with a letter less -/
theorem sub_one {z u : List Bool} (h : z.Sublist u) (hl : u.length = z.length + 1) : ∃ p c q, u = p ++ c :: q ∧ z = p ++ q := by
  induction h with
  | slnil => simp at hl
  | @cons l1 l2 a h ih =>
    have hle : l2.length = l1.length := by simpa using hl
    exact ⟨[], a, l2, rfl, h.eq_of_length hle.symm⟩
  | @cons_cons l1 l2 a h ih =>
    obtain ⟨p, c, q, rfl, rfl⟩ := ih (by simpa using hl)
    exact ⟨a :: p, c, q, rfl, rfl⟩
/-- **Words of a code of Varshamov and Tenengolts have no common word with a letter less.** -/
theorem vt_del {u v z : List Bool} {n : Nat} (hu : u.length = n) (hv : v.length = n) (hs : vtS u % (n + 1) = vtS v % (n + 1)) (h1 : z.Sublist u) (h2 : z.Sublist v) (hz : z.length + 1 = n) : u = v := by
  obtain ⟨p, c, q, rfl, e1⟩ := sub_one h1 (by omega)
  obtain ⟨p', c', q', rfl, e2⟩ := sub_one h2 (by omega)
  rw [vtS_ins, vtS_ins, ← e1, ← e2] at hs
  have l1 := cnt_len p
  have l2 := cnt_len q
  have l3 := cnt_len p'
  have l4 := cnt_len q'
  have hcz : p.count true + q.count true = p'.count true + q'.count true := by rw [← List.count_append, ← List.count_append, ← e1, ← e2]
  have hcf : p.count false + q.count false = p'.count false + q'.count false := by rw [← List.count_append, ← List.count_append, ← e1, ← e2]
  have hlp : p.length + q.length + 1 = n := by rw [← List.length_append, ← e1]; exact hz
  have hlp' : p'.length + q'.length + 1 = n := by rw [← List.length_append, ← e2]; exact hz
  have hmod : ∀ s x y : Nat, x ≤ n → y ≤ n → (s + x) % (n + 1) = (s + y) % (n + 1) → x = y := by
    intro s x y hx hy h
    have h1 := Nat.div_add_mod (s + x) (n + 1)
    have h2 := Nat.div_add_mod (s + y) (n + 1)
    rw [h] at h1
    rcases Nat.lt_trichotomy ((s + x) / (n + 1)) ((s + y) / (n + 1)) with hd | hd | hd
    · have := Nat.mul_le_mul_left (n + 1) hd
      rw [Nat.mul_succ] at this
      omega
    · rw [hd] at h1; omega
    · have := Nat.mul_le_mul_left (n + 1) hd
      rw [Nat.mul_succ] at this
      omega
  have e : p ++ q = p' ++ q' := by rw [← e1, ← e2]
  cases c <;> cases c' <;> simp only [if_true, if_false, Bool.false_eq_true, Nat.add_zero] at hs
  · have := hmod _ _ _ (by omega) (by omega) hs
    exact ins_same e (by exact this)
  · have := hmod _ _ _ (by omega) (by omega) hs
    omega
  · have := hmod _ _ _ (by omega) (by omega) hs
    omega
  · have := hmod _ _ _ (by omega) (by omega) hs
    exact ins_same e (by show q.count false = q'.count false; omega)
/-- the length of the longest common subsequence -/
def lcsL {α : Type} [DecidableEq α] : List α → List α → Nat
  | [], _ => 0
  | _ :: _, [] => 0
  | a :: u, b :: v => if a = b then lcsL u v + 1 else max (lcsL u (b :: v)) (lcsL (a :: u) v)
termination_by u v => u.length + v.length
theorem lcs_nil {α : Type} [DecidableEq α] (u : List α) : lcsL u [] = 0 := by cases u <;> simp [lcsL]
theorem lcs_ge {α : Type} [DecidableEq α] : ∀ (m : Nat) (u v z : List α), u.length + v.length = m → z.Sublist u → z.Sublist v → z.length ≤ lcsL u v := by
  intro m
  induction m using Nat.strongRecOn with
  | _ m ih =>
    intro u v z hm h1 h2
    cases u with
    | nil => rw [List.sublist_nil.1 h1]; exact Nat.zero_le _
    | cons a u =>
      cases v with
      | nil => rw [List.sublist_nil.1 h2]; exact Nat.zero_le _
      | cons b v =>
        rw [lcsL]
        simp only [List.length_cons] at hm
        by_cases hab : a = b
        · subst hab
          rw [if_pos rfl]
          cases z with
          | nil => exact Nat.zero_le _
          | cons c z =>
            have k1 : z.Sublist u := by
              cases h1 with
              | cons _ h => exact (List.sublist_cons_self c z).trans h
              | cons_cons _ h => exact h
            have k2 : z.Sublist v := by
              cases h2 with
              | cons _ h => exact (List.sublist_cons_self c z).trans h
              | cons_cons _ h => exact h
            exact Nat.succ_le_succ (ih _ (by omega) u v z rfl k1 k2)
        · rw [if_neg hab]
          cases h1 with
          | cons _ h => exact Nat.le_trans (ih _ (by simp; omega) u (b :: v) z rfl h h2) (Nat.le_max_left ..)
          | cons_cons _ h =>
            cases h2 with
            | cons _ h' => exact Nat.le_trans (ih _ (by simp; omega) (a :: u) v _ rfl (h.cons_cons a) h') (Nat.le_max_right ..)
            | cons_cons _ h' => exact absurd rfl hab
theorem lcs_real {α : Type} [DecidableEq α] : ∀ (m : Nat) (u v : List α), u.length + v.length = m → ∃ z : List α, z.Sublist u ∧ z.Sublist v ∧ z.length = lcsL u v := by
  intro m
  induction m using Nat.strongRecOn with
  | _ m ih =>
    intro u v hm
    cases u with
    | nil => exact ⟨[], List.nil_sublist _, List.nil_sublist _, by simp [lcsL]⟩
    | cons a u =>
      cases v with
      | nil => exact ⟨[], List.nil_sublist _, List.nil_sublist _, by simp [lcsL]⟩
      | cons b v =>
        rw [lcsL]
        simp only [List.length_cons] at hm
        by_cases hab : a = b
        · subst hab
          obtain ⟨z, z1, z2, z3⟩ := ih _ (by omega) u v rfl
          exact ⟨a :: z, z1.cons_cons a, z2.cons_cons a, by rw [if_pos rfl, List.length_cons, z3]⟩
        · rw [if_neg hab]
          obtain ⟨z, z1, z2, z3⟩ := ih _ (by simp; omega) u (b :: v) rfl
          obtain ⟨y, y1, y2, y3⟩ := ih _ (by simp; omega) (a :: u) v rfl
          rcases Nat.le_total (lcsL u (b :: v)) (lcsL (a :: u) v) with h | h
          · exact ⟨y, y1, y2.cons b, by rw [Nat.max_eq_right h, y3]⟩
          · exact ⟨z, z1.cons a, z2, by rw [Nat.max_eq_left h, z3]⟩
end Go.Proofs.Gv
