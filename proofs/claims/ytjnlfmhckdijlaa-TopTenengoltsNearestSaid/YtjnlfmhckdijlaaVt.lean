/- Texts joined. -/
set_option linter.unusedSimpArgs false
set_option linter.unusedVariables false
namespace Go.Proofs.Gv
/-- the sum of the places of the letters 1 -/
def vtS : List Bool → Nat
  | [] => 0
  | b :: l => (b :: l).count true + vtS l
theorem vtS_app (p q : List Bool) : vtS (p ++ q) = vtS p + p.length * q.count true + vtS q := by
  induction p with
  | nil => simp [vtS]
  | cons b p ih =>
    show (b :: (p ++ q)).count true + vtS (p ++ q) = (b :: p).count true + vtS p + (b :: p).length * q.count true + vtS q
    rw [ih, List.length_cons, List.count_cons, List.count_cons, List.count_append, Nat.succ_mul]
    omega
/-- what a letter put in adds -/
theorem vtS_ins (p q : List Bool) (c : Bool) : vtS (p ++ c :: q) = vtS (p ++ q) + (q.count true + if c then p.length + 1 else 0) := by
  rw [vtS_app, vtS_app]
  show vtS p + p.length * (c :: q).count true + ((c :: q).count true + vtS q) = _
  rw [List.count_cons]
  cases c
  · simp; omega
  · simp [Nat.mul_add]; omega
theorem cnt_len (l : List Bool) : l.count true + l.count false = l.length := by
  induction l with
  | nil => rfl
  | cons b l ih => cases b <;> simp <;> omega
theorem all_of_cnt {l : List Bool} {b : Bool} (h : l.count (!b) = 0) : l = List.replicate l.length b := by
  rw [List.eq_replicate_iff]
  refine ⟨rfl, fun x hx => ?_⟩
  have := List.count_eq_zero.1 h
  cases b <;> cases x <;> first | rfl | exact absurd hx this
theorem rep_swap (k : Nat) (b : Bool) (q : List Bool) : b :: (List.replicate k b ++ q) = List.replicate k b ++ b :: q := by
  induction k with
  | zero => rfl
  | succ k ih => rw [List.replicate_succ, List.cons_append, ih]; rfl
/-- a letter put in within a run of its own gives the same word -/
theorem ins_same {p q p' q' : List Bool} {b : Bool} (h : p ++ q = p' ++ q') (hc : q.count (!b) = q'.count (!b)) : p ++ b :: q = p' ++ b :: q' := by
  rcases List.append_eq_append_iff.1 h with ⟨r, rfl, rfl⟩ | ⟨r, rfl, rfl⟩
  · have hr : r.count (!b) = 0 := by rw [List.count_append] at hc; omega
    rw [all_of_cnt hr, List.append_assoc, rep_swap]
  · have hr : r.count (!b) = 0 := by rw [List.count_append] at hc; omega
    rw [all_of_cnt hr, List.append_assoc, rep_swap]
/-- a letter left out of a run of its own gives the same word -/
theorem del_same {p q p' q' : List Bool} {b : Bool} (h : p ++ b :: q = p' ++ b :: q') (hc : q.count (!b) = q'.count (!b)) : p ++ q = p' ++ q' := by
  have key : ∀ p q p' q' : List Bool, p ++ b :: q = p' ++ b :: q' → q.count (!b) = q'.count (!b) → p.length ≤ p'.length → p ++ q = p' ++ q' := by
    intro p q p' q' h hc hl
    rcases List.append_eq_append_iff.1 h with ⟨r, rfl, h2⟩ | ⟨r, rfl, h2⟩
    · cases r with
      | nil => simp at h2 ⊢; exact h2
      | cons x r =>
        rw [List.cons_append, List.cons.injEq] at h2
        obtain ⟨rfl, rfl⟩ := h2
        have hr : r.count (!b) = 0 := by rw [List.count_append, List.count_cons] at hc; simp at hc; omega
        rw [all_of_cnt hr, List.append_assoc, List.cons_append, rep_swap]
    · have : r = [] := List.length_eq_zero_iff.1 (by rw [List.length_append] at hl; omega)
      subst this
      simp at h2 ⊢
      exact h2.symm
  rcases Nat.le_total p.length p'.length with hl | hl
  · exact key p q p' q' h hc hl
  · exact (key p' q' p q h.symm hc.symm hl).symm
/-- a word with a letter less -/
theorem sub_one {z u : List Bool} (h : z.Sublist u) (hl : u.length = z.length + 1) : ∃ p c q, u = p ++ c :: q ∧ z = p ++ q := by
  induction h with
  | slnil => simp at hl
  | @cons l1 l2 a h ih =>
    have hle : l2.length = l1.length := by simpa using hl
    exact ⟨[], a, l2, rfl, h.eq_of_length hle.symm⟩
  | @cons_cons l1 l2 a h ih =>
    obtain ⟨p, c, q, rfl, rfl⟩ := ih (by simpa using hl)
    exact ⟨a :: p, c, q, rfl, rfl⟩
/-- **Words of a code of Varshamov and Tenengolts have no common word with a letter less.** -/
theorem vt_del {u v z : List Bool} {n : Nat} (hu : u.length = n) (hv : v.length = n) (hs : vtS u % (n + 1) = vtS v % (n + 1)) (h1 : z.Sublist u) (h2 : z.Sublist v) (hz : z.length + 1 = n) : u = v := by
  obtain ⟨p, c, q, rfl, e1⟩ := sub_one h1 (by omega)
  obtain ⟨p', c', q', rfl, e2⟩ := sub_one h2 (by omega)
  rw [vtS_ins, vtS_ins, ← e1, ← e2] at hs
  have l1 := cnt_len p
  have l2 := cnt_len q
  have l3 := cnt_len p'
  have l4 := cnt_len q'
  have hcz : p.count true + q.count true = p'.count true + q'.count true := by rw [← List.count_append, ← List.count_append, ← e1, ← e2]
  have hcf : p.count false + q.count false = p'.count false + q'.count false := by rw [← List.count_append, ← List.count_append, ← e1, ← e2]
  have hlp : p.length + q.length + 1 = n := by rw [← List.length_append, ← e1]; exact hz
  have hlp' : p'.length + q'.length + 1 = n := by rw [← List.length_append, ← e2]; exact hz
  have hmod : ∀ s x y : Nat, x ≤ n → y ≤ n → (s + x) % (n + 1) = (s + y) % (n + 1) → x = y := by
    intro s x y hx hy h
    have h1 := Nat.div_add_mod (s + x) (n + 1)
    have h2 := Nat.div_add_mod (s + y) (n + 1)
    rw [h] at h1
    rcases Nat.lt_trichotomy ((s + x) / (n + 1)) ((s + y) / (n + 1)) with hd | hd | hd
    · have := Nat.mul_le_mul_left (n + 1) hd
      rw [Nat.mul_succ] at this
      omega
    · rw [hd] at h1; omega
    · have := Nat.mul_le_mul_left (n + 1) hd
      rw [Nat.mul_succ] at this
      omega
  have e : p ++ q = p' ++ q' := by rw [← e1, ← e2]
  cases c <;> cases c' <;> simp only [if_true, if_false, Bool.false_eq_true, Nat.add_zero] at hs
  · have := hmod _ _ _ (by omega) (by omega) hs
    exact ins_same e (by exact this)
  · have := hmod _ _ _ (by omega) (by omega) hs
    omega
  · have := hmod _ _ _ (by omega) (by omega) hs
    omega
  · have := hmod _ _ _ (by omega) (by omega) hs
    exact ins_same e (by show q.count false = q'.count false; omega)
/-- **Of the words with a letter less, of each word with a letter more, one at the most is in the code.** -/
theorem vt_ins {u v w : List Bool} {n : Nat} (hu : u.length = n) (hv : v.length = n) (hw : w.length = n + 1) (hs : vtS u % (n + 1) = vtS v % (n + 1)) (h1 : u.Sublist w) (h2 : v.Sublist w) : u = v := by
  obtain ⟨p, c, q, e1, rfl⟩ := sub_one h1 (by omega)
  obtain ⟨p', c', q', e2, rfl⟩ := sub_one h2 (by omega)
  have s1 := vtS_ins p q c
  have s2 := vtS_ins p' q' c'
  rw [← e1] at s1
  rw [← e2] at s2
  have l1 := cnt_len p
  have l2 := cnt_len q
  have l3 := cnt_len p'
  have l4 := cnt_len q'
  have hlp : p.length + q.length = n := by rw [← List.length_append]; exact hu
  have hlp' : p'.length + q'.length = n := by rw [← List.length_append]; exact hv
  have w1 : w.count true = p.count true + q.count true + (if c then 1 else 0) := by rw [e1, List.count_append, List.count_cons]; cases c <;> simp <;> omega
  have w2 : w.count true = p'.count true + q'.count true + (if c' then 1 else 0) := by rw [e2, List.count_append, List.count_cons]; cases c' <;> simp <;> omega
  have hlw := cnt_len w
  have hmod : ∀ x y s d e : Nat, s = x + d → s = y + e → d ≤ n + 1 → e ≤ n + 1 → x % (n + 1) = y % (n + 1) → d = e ∨ (d = 0 ∧ e = n + 1) ∨ (d = n + 1 ∧ e = 0) := by
    intro x y s d e hd he hd1 he1 h
    have h1 := Nat.div_add_mod x (n + 1)
    have h2 := Nat.div_add_mod y (n + 1)
    rw [h] at h1
    rcases Nat.lt_trichotomy (x / (n + 1)) (y / (n + 1)) with hq | hq | hq
    · have := Nat.mul_le_mul_left (n + 1) hq
      rw [Nat.mul_succ] at this
      omega
    · rw [hq] at h1; omega
    · have := Nat.mul_le_mul_left (n + 1) hq
      rw [Nat.mul_succ] at this
      omega
  have e : p ++ c :: q = p' ++ c' :: q' := by rw [← e1, ← e2]
  -- the first and the last letter
  have hz : ∀ (a b a' b' : List Bool), a ++ false :: b = a' ++ true :: b' → a.count true = 0 → a'.count false = 0 → False := by
    intro a b a' b' h ha ha'
    cases a with
    | nil =>
      cases a' with
      | nil => simp at h
      | cons x a' => simp at h; obtain ⟨rfl, _⟩ := h; simp at ha'
    | cons y a =>
      cases y
      · cases a' with
        | nil => simp at h
        | cons x a' => simp at h; obtain ⟨rfl, _⟩ := h; simp at ha'
      · simp at ha
  have hy : ∀ (a b a' b' : List Bool), a ++ false :: b = a' ++ true :: b' → b.count true = 0 → b'.count false = 0 → False := by
    intro a b a' b' h hb hb'
    have h := congrArg List.reverse h
    rw [List.reverse_append, List.reverse_append, List.reverse_cons, List.reverse_cons, List.append_assoc, List.append_assoc] at h
    exact hz b.reverse a.reverse b'.reverse a'.reverse h (by rw [List.count_reverse]; exact hb) (by rw [List.count_reverse]; exact hb')
  cases c <;> cases c' <;> simp only [if_true, if_false, Bool.false_eq_true, Nat.add_zero] at s1 s2 w1 w2
  · rcases hmod _ _ _ _ _ s1 s2 (by omega) (by omega) hs with h | ⟨ha, hb⟩ | ⟨ha, hb⟩
    · exact del_same e h
    · omega
    · omega
  · rcases hmod _ _ _ _ _ s1 s2 (by omega) (by omega) hs with h | ⟨ha, hb⟩ | ⟨ha, hb⟩
    · exact (hz p q p' q' e (by omega) (by omega)).elim
    · exact (hy p q p' q' e (by omega) (by omega)).elim
    · omega
  · rcases hmod _ _ _ _ _ s1 s2 (by omega) (by omega) hs with h | ⟨ha, hb⟩ | ⟨ha, hb⟩
    · exact (hz p' q' p q e.symm (by omega) (by omega)).elim
    · omega
    · exact (hy p' q' p q e.symm (by omega) (by omega)).elim
  · rcases hmod _ _ _ _ _ s1 s2 (by omega) (by omega) hs with h | ⟨ha, hb⟩ | ⟨ha, hb⟩
    · exact del_same e (by show q.count false = q'.count false; omega)
    · omega
    · omega
theorem split_cnt (b : Bool) : ∀ (z : List Bool) (k : Nat), k ≤ z.count b → ∃ p q, z = p ++ q ∧ q.count b = k
  | [], k, h => ⟨[], [], rfl, by simp at h; simp; omega⟩
  | x :: z, k, h => by
    by_cases hk : k ≤ z.count b
    · obtain ⟨p, q, rfl, hq⟩ := split_cnt b z k hk
      exact ⟨x :: p, q, rfl, hq⟩
    · refine ⟨[], x :: z, rfl, ?_⟩
      rw [List.count_cons] at h ⊢
      split at h <;> simp_all <;> omega
/-- **Each word is a word with a letter less of a word of each code.** -/
theorem vt_some (z : List Bool) (a : Nat) (ha : a ≤ z.length + 1) : ∃ p c q, z = p ++ q ∧ vtS (p ++ c :: q) % (z.length + 2) = a := by
  have hl := cnt_len z
  have hm := Nat.mod_lt (vtS z) (show 0 < z.length + 2 by omega)
  have e0 := Nat.div_add_mod (vtS z) (z.length + 2)
  obtain ⟨d, hd, hda⟩ : ∃ d, d ≤ z.length + 1 ∧ (vtS z + d) % (z.length + 2) = a := by
    by_cases h : vtS z % (z.length + 2) ≤ a
    · refine ⟨a - vtS z % (z.length + 2), by omega, ?_⟩
      rw [← Nat.mod_add_mod, show vtS z % (z.length + 2) + (a - vtS z % (z.length + 2)) = a by omega, Nat.mod_eq_of_lt (by omega)]
    · refine ⟨a + (z.length + 2) - vtS z % (z.length + 2), by omega, ?_⟩
      rw [← Nat.mod_add_mod, show vtS z % (z.length + 2) + (a + (z.length + 2) - vtS z % (z.length + 2)) = a + (z.length + 2) by omega, Nat.add_mod_right, Nat.mod_eq_of_lt (by omega)]
  by_cases h : d ≤ z.count true
  · obtain ⟨p, q, e, hq⟩ := split_cnt true z d h
    exact ⟨p, false, q, e, by rw [vtS_ins, hq, ← e]; exact hda⟩
  · obtain ⟨p, q, e, hq⟩ := split_cnt false z (z.count false - (d - z.count true - 1)) (by omega)
    refine ⟨p, true, q, e, ?_⟩
    have l1 := cnt_len p
    have l2 := cnt_len q
    have l3 : z.length = p.length + q.length := by rw [e, List.length_append]
    have l4 : z.count true = p.count true + q.count true := by rw [e, List.count_append]
    have l5 : z.count false = p.count false + q.count false := by rw [e, List.count_append]
    rw [vtS_ins, ← e, if_pos rfl, show q.count true + (p.length + 1) = d by omega]
    exact hda
/-- the length of the longest common subsequence -/
def lcsL {α : Type} [DecidableEq α] : List α → List α → Nat
  | [], _ => 0
  | _ :: _, [] => 0
  | a :: u, b :: v => if a = b then lcsL u v + 1 else max (lcsL u (b :: v)) (lcsL (a :: u) v)
termination_by u v => u.length + v.length
theorem lcs_nil {α : Type} [DecidableEq α] (u : List α) : lcsL u [] = 0 := by cases u <;> simp [lcsL]
theorem lcs_ge {α : Type} [DecidableEq α] : ∀ (m : Nat) (u v z : List α), u.length + v.length = m → z.Sublist u → z.Sublist v → z.length ≤ lcsL u v := by
  intro m
  induction m using Nat.strongRecOn with
  | _ m ih =>
    intro u v z hm h1 h2
    cases u with
    | nil => rw [List.sublist_nil.1 h1]; exact Nat.zero_le _
    | cons a u =>
      cases v with
      | nil => rw [List.sublist_nil.1 h2]; exact Nat.zero_le _
      | cons b v =>
        rw [lcsL]
        simp only [List.length_cons] at hm
        by_cases hab : a = b
        · subst hab
          rw [if_pos rfl]
          cases z with
          | nil => exact Nat.zero_le _
          | cons c z =>
            have k1 : z.Sublist u := by
              cases h1 with
              | cons _ h => exact (List.sublist_cons_self c z).trans h
              | cons_cons _ h => exact h
            have k2 : z.Sublist v := by
              cases h2 with
              | cons _ h => exact (List.sublist_cons_self c z).trans h
              | cons_cons _ h => exact h
            exact Nat.succ_le_succ (ih _ (by omega) u v z rfl k1 k2)
        · rw [if_neg hab]
          cases h1 with
          | cons _ h => exact Nat.le_trans (ih _ (by simp; omega) u (b :: v) z rfl h h2) (Nat.le_max_left ..)
          | cons_cons _ h =>
            cases h2 with
            | cons _ h' => exact Nat.le_trans (ih _ (by simp; omega) (a :: u) v _ rfl (h.cons_cons a) h') (Nat.le_max_right ..)
            | cons_cons _ h' => exact absurd rfl hab
theorem lcs_real {α : Type} [DecidableEq α] : ∀ (m : Nat) (u v : List α), u.length + v.length = m → ∃ z : List α, z.Sublist u ∧ z.Sublist v ∧ z.length = lcsL u v := by
  intro m
  induction m using Nat.strongRecOn with
  | _ m ih =>
    intro u v hm
    cases u with
    | nil => exact ⟨[], List.nil_sublist _, List.nil_sublist _, by simp [lcsL]⟩
    | cons a u =>
      cases v with
      | nil => exact ⟨[], List.nil_sublist _, List.nil_sublist _, by simp [lcsL]⟩
      | cons b v =>
        rw [lcsL]
        simp only [List.length_cons] at hm
        by_cases hab : a = b
        · subst hab
          obtain ⟨z, z1, z2, z3⟩ := ih _ (by omega) u v rfl
          exact ⟨a :: z, z1.cons_cons a, z2.cons_cons a, by rw [if_pos rfl, List.length_cons, z3]⟩
        · rw [if_neg hab]
          obtain ⟨z, z1, z2, z3⟩ := ih _ (by simp; omega) u (b :: v) rfl
          obtain ⟨y, y1, y2, y3⟩ := ih _ (by simp; omega) (a :: u) v rfl
          rcases Nat.le_total (lcsL u (b :: v)) (lcsL (a :: u) v) with h | h
          · exact ⟨y, y1, y2.cons b, by rw [Nat.max_eq_right h, y3]⟩
          · exact ⟨z, z1.cons a, z2, by rw [Nat.max_eq_left h, z3]⟩
end Go.Proofs.Gv
