/- Package-merge, plainly: the counts that are taken make lengths of least cost. -/
import Derived.Test.YtglgiofjgfbfgaaLimK
import Derived.Test.YtglgiofjgfbfgaaLcnP
set_option linter.unusedSimpArgs false
set_option linter.unusedVariables false
namespace Go.Proofs.Gv

theorem csP_rvI {A B : List Nat} (h : A.length = B.length) : csP (A.reverse.zip B.reverse) = csP (A.zip B) := by
  have : A.reverse.zip B.reverse = (A.zip B).reverse := (List.reverse_zipWith h).symm
  rw [this]; exact csP_perm (List.reverse_perm _)
/-- from how many levels a weight is taken. -/
def cnI (A : List Nat) : Nat → Nat → Nat → Nat
  | 0, _, _ => 0
  | t + 1, m, i => (if i < sgN ((lvI A (t + 1)).take m) then 1 else 0) + cnI A t (2 * (m - sgN ((lvI A (t + 1)).take m))) i
/-- one level: what the first of it are made of. -/
theorem lvI_split {A : List Nat} (hA : A.Pairwise (· ≤ ·)) {t m : Nat} (hm : m ≤ (lvI A (t + 1)).length) :
    ∃ s, sgN ((lvI A (t + 1)).take m) = s ∧ s ≤ m ∧ s ≤ A.length ∧ 2 * (m - s) ≤ (lvI A t).length ∧ wsI ((lvI A (t + 1)).take m) = (A.take s).sum + wsI ((lvI A t).take (2 * (m - s)))
      ∧ (∀ x, (sgI A)[s]? = some x → x ∉ (lvI A t).take (2 * (m - s))) ∧ ∀ z ∈ (sgI A).take s, z ∈ (lvI A (t + 1)).take m := by
  rw [lvI_len] at hm
  obtain ⟨a, b, h1, h2, h3, h4, h5, h6, h7⟩ := mgI_split (sgI A) (pkI (lvI A t)) m (sgI_asc hA) (sgI_true A) (pkI_false _) (by rw [sgI_len, pkI_len]; exact hm)
  rw [sgI_len] at h2
  rw [pkI_len] at h3
  have hb : m - a = b := by omega
  rw [lvI]
  refine ⟨a, h4, by omega, h2, by omega, ?_, fun x hx hin => ?_, h7⟩
  · rw [h5, sgI_take, hb, pkI_sum _ _ (by omega)]
  · rw [hb] at hin
    obtain ⟨k, hk, hkx⟩ := List.getElem_of_mem hin
    rw [List.length_take] at hk
    have hkx' : (lvI A t)[k]? = some x := by
      rw [List.getElem_take] at hkx
      rw [← hkx]; exact List.getElem?_eq_getElem (by omega)
    obtain ⟨y, hy, hxy⟩ := pkI_at _ k b x hkx' (by omega) (by omega)
    have := h6 x y hx (k / 2) (by omega) (pkI_asc _ (lvI_asc hA t)).1 hy
    omega
theorem cnI_le (A : List Nat) : ∀ t m i, cnI A t m i ≤ t
  | 0, _, _ => Nat.le_refl _
  | t + 1, m, i => by
    have := cnI_le A t (2 * (m - sgN ((lvI A (t + 1)).take m))) i
    rw [cnI]; split <;> omega
theorem cnI_none {A : List Nat} (hA : A.Pairwise (· ≤ ·)) : ∀ (t m i : Nat), m ≤ (lvI A (t + 1)).length → sgN ((lvI A (t + 1)).take m) ≤ i → i < A.length → cnI A (t + 1) m i = 0
  | 0, m, i, hm, h, _ => by rw [cnI, if_neg (by omega)]; rfl
  | t + 1, m, i, hm, h, hi => by
    obtain ⟨s, h1, h2, h3, h4, _, h6, _⟩ := lvI_split hA hm
    obtain ⟨s', g1, _, g3, _, _, _, g7⟩ := lvI_split hA h4
    rw [h1] at h
    have hss : s' ≤ s := by
      rcases Nat.lt_or_ge s s' with hc | hc
      · exfalso
        have hsl : s < (sgI A).length := by rw [sgI_len]; omega
        refine h6 (sgI A)[s] (List.getElem?_eq_getElem hsl) (g7 _ ?_)
        have : ((sgI A).take s')[s]? = some (sgI A)[s] := by rw [List.getElem?_take_of_lt hc]; exact List.getElem?_eq_getElem hsl
        exact List.mem_of_getElem? this
      · exact hc
    rw [cnI, h1, if_neg (by omega), Nat.zero_add]
    exact cnI_none hA t (2 * (m - s)) i h4 (by rw [g1]; omega) hi
theorem csP_flag : ∀ (A : List Nat) (s j : Nat), csP (A.zip ((List.range' j A.length).map fun i => if i < j + s then 1 else 0)) = (A.take s).sum
  | [], s, j => by simp [csP]
  | a :: A, s, j => by
    rw [List.length_cons, List.range'_succ, List.map_cons, List.zip_cons_cons, csP_cons]
    cases s with
    | zero =>
      have := csP_flag A 0 (j + 1)
      rw [List.take_zero] at this ⊢
      simp only [Nat.add_zero, Nat.lt_irrefl, if_false, Nat.mul_zero, Nat.zero_add, List.sum_nil] at this ⊢
      refine Eq.trans ?_ this
      congr 2
      refine List.map_congr_left fun i hi => ?_
      have := (List.mem_range'_1.1 hi).1
      rw [if_neg (by omega), if_neg (by omega)]
    | succ s =>
      have := csP_flag A s (j + 1)
      rw [if_pos (by omega), Nat.mul_one, List.take_succ_cons, List.sum_cons, ← this]
      congr 4
      funext i
      rw [show j + (s + 1) = j + 1 + s by omega]
theorem csP_add (f g : Nat → Nat) : ∀ (A I : List Nat), csP (A.zip (I.map fun i => f i + g i)) = csP (A.zip (I.map f)) + csP (A.zip (I.map g))
  | [], I => by simp [csP]
  | a :: A, [] => by simp [csP]
  | a :: A, i :: I => by
    rw [List.map_cons, List.map_cons, List.map_cons, List.zip_cons_cons, List.zip_cons_cons, List.zip_cons_cons, csP_cons, csP_cons, csP_cons, csP_add f g A I]
    simp only [Nat.mul_add]
    omega
/-- the counts as a list. -/
def cnL (A : List Nat) (t m : Nat) : List Nat := (List.range A.length).map (cnI A t m)
theorem cnL_len (A : List Nat) (t m : Nat) : (cnL A t m).length = A.length := by simp [cnL]
theorem cnL_le (A : List Nat) (t m : Nat) : ∀ x ∈ cnL A t m, x ≤ t := fun x hx => by
  obtain ⟨i, _, rfl⟩ := List.mem_map.1 hx; exact cnI_le A t m i
theorem cnL_cost {A : List Nat} (hA : A.Pairwise (· ≤ ·)) : ∀ t m, m ≤ (lvI A t).length → csP (A.zip (cnL A t m)) = wsI ((lvI A t).take m)
  | 0, m, _ => by
    have : ∀ (B : List Nat) (I : List Nat), csP (B.zip (I.map fun _ => 0)) = 0 := fun B => by
      induction B with
      | nil => intro I; simp [csP]
      | cons b B ih =>
        intro I
        cases I with
        | nil => simp [csP]
        | cons i I => rw [List.map_cons, List.zip_cons_cons, csP_cons, ih I, Nat.mul_zero]
    simp only [lvI, List.take_nil]
    exact this A (List.range A.length)
  | t + 1, m, hm => by
    obtain ⟨s, h1, h2, h3, h4, h5, _, _⟩ := lvI_split hA hm
    have ih := cnL_cost hA t (2 * (m - s)) h4
    have hf := csP_flag A s 0
    have e : cnL A (t + 1) m = (List.range A.length).map fun i => (if i < 0 + s then 1 else 0) + cnI A t (2 * (m - s)) i := by
      refine List.map_congr_left fun i _ => ?_
      rw [cnI, h1, Nat.zero_add s]
    rw [← List.range_eq_range'] at hf
    rw [e, csP_add, hf, h5]
    exact congrArg (_ + ·) ih
theorem countI_lt : ∀ n s : Nat, s ≤ n → (List.range n).countP (fun i => decide (i < s)) = s
  | 0, s, h => by have : s = 0 := by omega
                  subst this; rfl
  | n + 1, s, h => by
    rw [List.range_succ, List.countP_append]
    rcases Nat.eq_or_lt_of_le h with h' | h'
    · subst h'
      have := List.countP_eq_length (p := fun i => decide (i < n + 1)) (l := List.range n) |>.2 fun a ha => by
        have := List.mem_range.1 ha
        exact decide_eq_true (by omega)
      rw [this, List.length_range]; simp
    · rw [countI_lt n s (by omega)]
      have : ¬ n < s := by omega
      simp [this]
theorem cnL_room {A : List Nat} (hA : A.Pairwise (· ≤ ·)) : ∀ t m, m ≤ (lvI A t).length → 2 * vlI t (cnL A t m) = m * 2 ^ t
  | 0, m, h => by
    have : m = 0 := by simpa [lvI] using h
    subst this
    have := vlI_le 0 (cnL A 0 0)
    simp at this
    rw [this]
  | t + 1, m, hm => by
    obtain ⟨s, h1, h2, h3, h4, h5, _, _⟩ := lvI_split hA hm
    have ih := cnL_room hA t (2 * (m - s)) h4
    have e1 : (cnL A (t + 1) m).map (· - 1) = cnL A t (2 * (m - s)) := by
      unfold cnL
      rw [List.map_map]
      refine List.map_congr_left fun i hi => ?_
      have hi := List.mem_range.1 hi
      show cnI A (t + 1) m i - 1 = _
      rcases Nat.lt_or_ge i s with h | h
      · rw [cnI, h1, if_pos h, Nat.add_sub_cancel_left]
      · have h0 := cnI_none hA t m i hm (by rw [h1]; exact h) hi
        rw [h0]
        rw [cnI, h1, if_neg (by omega), Nat.zero_add] at h0
        rw [h0]
    have e2 : (cnL A (t + 1) m).countP (0 < ·) = s := by
      unfold cnL
      rw [List.countP_map]
      have : (List.range A.length).countP ((fun x => decide (0 < x)) ∘ cnI A (t + 1) m) = (List.range A.length).countP (fun i => decide (i < s)) := by
        refine List.countP_congr fun i hi => ?_
        have hi := List.mem_range.1 hi
        show decide (0 < cnI A (t + 1) m i) = true ↔ decide (i < s) = true
        rw [decide_eq_true_iff, decide_eq_true_iff]
        rcases Nat.lt_or_ge i s with h | h
        · rw [cnI, h1, if_pos h]; omega
        · rw [cnI_none hA t m i hm (by rw [h1]; exact h) hi]; omega
      rw [this, countI_lt _ _ h3]
    rw [vlI_part t _ (cnL_le A (t + 1) m), e1, e2, Nat.mul_add, ih]
    have h3' : 2 ^ (t + 1) = 2 * 2 ^ t := Nat.pow_succ'
    rw [h3', ← Nat.mul_assoc, ← Nat.add_mul, ← Nat.mul_assoc, Nat.mul_comm m 2]
    congr 1
    omega
theorem tkI_len (A : List Nat) : ∀ t m, (tkI A t m).length = t
  | 0, _ => rfl
  | t + 1, m => by rw [tkI, List.length_cons, tkI_len A t]
theorem tkI_bd {A : List Nat} (hA : A.Pairwise (· ≤ ·)) : ∀ t m, m ≤ (lvI A t).length → ∀ x ∈ tkI A t m, x.2 ≤ x.1 ∧ x.2 ≤ A.length
  | 0, m, h, x, hx => by cases hx
  | t + 1, m, hm, x, hx => by
    obtain ⟨s, h1, h2, h3, h4, h5, _, _⟩ := lvI_split hA hm
    rw [tkI, h1] at hx
    rcases List.mem_cons.1 hx with h | h
    · subst h; exact ⟨h2, h3⟩
    · exact tkI_bd hA t _ h4 x h
theorem krL_vl (t : Nat) : ∀ c : List Nat, (∀ x ∈ c, x ≤ t) → krL t c + vlI t c = c.length * 2 ^ t
  | [], _ => by simp [krL, vlI]
  | x :: c, h => by
    have ih := krL_vl t c fun y hy => h y (List.mem_cons_of_mem _ hy)
    have hx := h x (List.mem_cons_self ..)
    have e1 : vlI t (x :: c) = (2 ^ t - 2 ^ (t - x)) + vlI t c := by simp [vlI]
    have e2 : krL t (x :: c) = 2 ^ (t - x) + krL t c := by simp [krL]
    have : 2 ^ (t - x) ≤ 2 ^ t := Nat.pow_le_pow_right (by omega) (by omega)
    rw [e1, e2, List.length_cons, Nat.add_mul, Nat.one_mul]
    omega
/-- the lengths that come of the counts, one more for each that is taken, from the least weights on. -/
def incI (out : List Nat) : List Nat → List Nat
  | [] => out
  | o :: os => incI (out.set o (out.getD o 0 + 1)) os
theorem incI_len : ∀ (os out : List Nat), (incI out os).length = out.length
  | [], out => rfl
  | o :: os, out => by rw [incI, incI_len os, List.length_set]
theorem incI_get : ∀ (os out : List Nat), os.Nodup → (∀ o ∈ os, o < out.length) → ∀ j, (incI out os).getD j 0 = out.getD j 0 + if j ∈ os then 1 else 0
  | [], out, _, _, j => by simp [incI]
  | o :: os, out, hn, hb, j => by
    rw [List.nodup_cons] at hn
    have ho := hb o (List.mem_cons_self ..)
    rw [incI, incI_get os _ hn.2 (fun x hx => by rw [List.length_set]; exact hb x (List.mem_cons_of_mem _ hx)) j]
    rcases Nat.decEq j o with h | h
    · have e : (out.set o (out.getD o 0 + 1)).getD j 0 = out.getD j 0 := by
        simp only [List.getD_eq_getElem?_getD, List.getElem?_set_ne (Ne.symm h)]
      rw [e]
      simp only [List.mem_cons, h, false_or]
    · subst h
      have e : (out.set j (out.getD j 0 + 1)).getD j 0 = out.getD j 0 + 1 := by
        simp only [List.getD_eq_getElem?_getD, List.getElem?_set_self ho, Option.getD_some]
      rw [e]
      simp [hn.1]
def pkF (R : List Nat) (out : List Nat) : List (Nat × Nat) → List Nat
  | [] => out
  | x :: p => pkF R (incI out (R.take x.2)) p
theorem pkF_len (R : List Nat) : ∀ (p : List (Nat × Nat)) (out : List Nat), (pkF R out p).length = out.length
  | [], out => rfl
  | x :: p, out => by rw [pkF, pkF_len R p, incI_len]
theorem nodupI_mem {R : List Nat} (hn : R.Nodup) {i s x : Nat} (hx : R[i]? = some x) : x ∈ R.take s ↔ i < s := by
  constructor
  · intro h
    obtain ⟨k, hk, hkx⟩ := List.getElem_of_mem h
    rw [List.length_take] at hk
    rw [List.getElem_take] at hkx
    have hi : i < R.length := (List.getElem?_eq_some_iff.1 hx).1
    have hxi := (List.getElem?_eq_some_iff.1 hx).2
    have : k = i := by
      rcases Nat.lt_trichotomy k i with h | h | h
      · exact absurd (hkx.trans hxi.symm) (List.pairwise_iff_getElem.1 hn k i (by omega) hi h)
      · exact h
      · exact absurd (hkx.trans hxi.symm).symm (List.pairwise_iff_getElem.1 hn i k hi (by omega) h)
    omega
  · intro h
    exact List.mem_of_getElem? (i := i) (by rw [List.getElem?_take_of_lt h]; exact hx)
theorem pkF_get {R : List Nat} (hn : R.Nodup) (A : List Nat) {i x : Nat} (hx : R[i]? = some x) : ∀ (t m : Nat) (out : List Nat), (∀ o ∈ R, o < out.length) → (pkF R out (tkI A t m)).getD x 0 = out.getD x 0 + cnI A t m i
  | 0, m, out, _ => rfl
  | t + 1, m, out, hb => by
    rw [tkI, pkF, pkF_get hn A hx t _ _ (fun o ho => by rw [incI_len]; exact hb o ho)]
    rw [incI_get _ _ (hn.sublist (List.take_sublist _ _)) (fun o ho => hb o (List.mem_of_mem_take ho)), cnI]
    have := nodupI_mem hn (s := sgN ((lvI A (t + 1)).take m)) hx
    split
    · rename_i h; rw [if_pos (this.1 h)]; omega
    · rename_i h; rw [if_neg (fun hc => h (this.2 hc))]; omega
/-- weights, the least first. -/
def upL (Ws : List Nat) : List Nat := (ordL Ws).reverse
def auL (Ws : List Nat) : List Nat := (owL Ws).reverse
theorem auL_asc (Ws : List Nat) : (auL Ws).Pairwise (· ≤ ·) := by
  unfold auL owL
  rw [← List.map_reverse]
  unfold ordL
  rw [List.reverse_reverse]
  exact List.pairwise_map.2 (ordR_asc _ _)
theorem auL_len (Ws : List Nat) : (auL Ws).length = Ws.length := by unfold auL; rw [List.length_reverse, owL_len]
/-- the lengths that packages make. -/
def pkL (Ws : List Nat) (m : Nat) : List Nat := pkF (upL Ws) (List.replicate Ws.length 0) (tkI (auL Ws) m (2 * Ws.length - 2))
theorem pkL_len (Ws : List Nat) (m : Nat) : (pkL Ws m).length = Ws.length := by unfold pkL; rw [pkF_len, List.length_replicate]
theorem pkL_cn (Ws : List Nat) (m : Nat) : (upL Ws).map ((pkL Ws m).getD · 0) = cnL (auL Ws) m (2 * Ws.length - 2) := by
  have hn : (upL Ws).Nodup := List.pairwise_reverse.2 ((ordL_nodup Ws).imp fun h => h.symm)
  refine List.ext_getElem? fun i => ?_
  unfold cnL
  rw [List.getElem?_map, List.getElem?_map, auL_len]
  have hul : (upL Ws).length = Ws.length := by unfold upL; rw [List.length_reverse, ordL_len]
  rcases Nat.lt_or_ge i Ws.length with h | h
  · have hx := List.getElem?_eq_getElem (l := upL Ws) (i := i) (by omega)
    rw [hx, List.getElem?_range h, Option.map_some, Option.map_some]
    have := pkF_get hn (auL Ws) hx m (2 * Ws.length - 2) (List.replicate Ws.length 0) (fun o ho => by rw [List.length_replicate]; exact ordL_lt (List.mem_reverse.1 ho))
    unfold pkL
    rw [this]
    simp [List.getD_eq_getElem?_getD, List.getElem?_replicate]
    split <;> simp
  · rw [List.getElem?_eq_none (by omega), List.getElem?_eq_none (by simpa using h)]; rfl
/-- THE LAW: the lengths that packages make fit and have the least cost. -/
theorem pk_law {Ws : List Nat} {m : Nat} (h2 : 2 ≤ Ws.length) (h : Ws.length ≤ 2 ^ m) :
    (∀ d ∈ pkL Ws m, 1 ≤ d ∧ d ≤ m) ∧ krL m (pkL Ws m) ≤ 2 ^ m ∧ csP (Ws.zip (pkL Ws m)) = limC Ws m := by
  have hm : 0 < m := by
    rcases Nat.eq_zero_or_pos m with h0 | h0
    · subst h0; simp at h; omega
    · exact h0
  obtain ⟨t, rfl⟩ : ∃ t, m = t + 1 := ⟨m - 1, by omega⟩
  have hA := auL_asc Ws
  have hAl := auL_len Ws
  have hhas : 2 * Ws.length - 2 ≤ (lvI (auL Ws) (t + 1)).length := by
    have := lvI_has (A := auL Ws) (t := t) (by rw [hAl]; exact h)
    rw [hAl] at this; exact this
  have hroom := cnL_room hA (t + 1) (2 * Ws.length - 2) hhas
  have hcost := cnL_cost hA (t + 1) (2 * Ws.length - 2) hhas
  have hcn := pkL_cn Ws (t + 1)
  have hcl := cnL_len (auL Ws) (t + 1) (2 * Ws.length - 2)
  have hcle := cnL_le (auL Ws) (t + 1) (2 * Ws.length - 2)
  generalize hL : pkL Ws (t + 1) = L at *
  have hLl : L.length = Ws.length := by rw [← hL, pkL_len]
  generalize hC : cnL (auL Ws) (t + 1) (2 * Ws.length - 2) = C at *
  have hperm : C.Perm L := by
    rw [← hcn]
    unfold upL
    rw [List.map_reverse]
    exact (List.reverse_perm _).trans (ord_room Ws L hLl)
  have hp : 0 < 2 ^ (t + 1) := Nat.two_pow_pos _
  have hv : vlI (t + 1) C = (Ws.length - 1) * 2 ^ (t + 1) := by
    have : 2 * vlI (t + 1) C = 2 * ((Ws.length - 1) * 2 ^ (t + 1)) := by
      rw [hroom, ← Nat.mul_assoc]; congr 1; omega
    omega
  have hle : ∀ d ∈ L, d ≤ t + 1 := fun d hd => hcle d (hperm.mem_iff.2 hd)
  have hpos : ∀ d ∈ L, 1 ≤ d := fun d hd => by
    rcases Nat.eq_zero_or_pos d with h0 | h0
    · exfalso
      subst h0
      have := vlI_zero (t + 1) C (hperm.mem_iff.2 hd)
      rw [hv, hcl, hAl] at this
      have h4 := Nat.le_of_mul_le_mul_left this (by omega)
      omega
    · exact h0
  have hkr : krL (t + 1) L = 2 ^ (t + 1) := by
    rw [← krL_perm hperm]
    have := krL_vl (t + 1) C hcle
    rw [hv, hcl, hAl] at this
    obtain ⟨k, hk⟩ : ∃ k, Ws.length = k + 1 := ⟨Ws.length - 1, by omega⟩
    rw [hk, Nat.add_mul, Nat.one_mul, Nat.add_sub_cancel] at this
    omega
  have hcs : csP (Ws.zip L) = csP ((auL Ws).zip C) := by
    rw [← ord_cost Ws L hLl, ← hcn]
    unfold auL upL
    rw [List.map_reverse, csP_rvI (by rw [owL_len, List.length_map, ordL_len])]
  refine ⟨fun d hd => ⟨hpos d hd, hle d hd⟩, Nat.le_of_eq hkr, Nat.le_antisymm ?_ (lim_best h hLl hle (Nat.le_of_eq hkr))⟩
  rw [hcs, hcost]
  obtain ⟨g1, g2, g3⟩ := lim_sound h
  have gl := limL_len0 Ws (t + 1)
  rw [← g1, ← ord_cost Ws _ gl, ← csP_rvI (by rw [owL_len, List.length_map, ordL_len])]
  have gperm : (((ordL Ws).map ((limL Ws (t + 1)).getD · 0)).reverse).Perm (limL Ws (t + 1)) := (List.reverse_perm _).trans (ord_room Ws _ gl)
  refine pk_best hA (t + 1) _ _ (by rw [hAl, List.length_reverse, List.length_map, ordL_len]) (fun x hx => g3 x (gperm.mem_iff.1 hx)) ?_
  have hk := krL_vl (t + 1) _ fun x hx => g3 x (gperm.mem_iff.1 hx)
  rw [krL_perm gperm, List.length_reverse, List.length_map, ordL_len] at hk
  obtain ⟨k, hk'⟩ : ∃ k, Ws.length = k + 1 := ⟨Ws.length - 1, by omega⟩
  rw [hk', Nat.add_mul, Nat.one_mul] at hk
  rw [hk', show 2 * (k + 1) - 2 = 2 * k by omega, Nat.mul_assoc]
  exact Nat.mul_le_mul_left 2 (by omega)
end Go.Proofs.Gv

namespace Go.Proofs.Gv
open Go Go.RowKit Go.Maps

/-- A row of items as cells. -/
def itV (L : List (Nat × Bool)) : List Value := L.flatMap fun x => [.bool false, .string (mg x.1), .bool x.2]
theorem itV_len (L : List (Nat × Bool)) : (itV L).length = L.length * 3 := by
  unfold itV
  induction L with
  | nil => rfl
  | cons x L ih => rw [List.flatMap_cons, List.length_append, ih]; simp only [List.length_cons, List.length_nil]; omega
theorem itV_app (A B : List (Nat × Bool)) : itV (A ++ B) = itV A ++ itV B := List.flatMap_append ..
theorem itV_cons (x : Nat × Bool) (L : List (Nat × Bool)) : itV (x :: L) = [.bool false, .string (mg x.1), .bool x.2] ++ itV L := rfl
theorem itV_drop : ∀ (L : List (Nat × Bool)) (i : Nat), itV (L.drop i) = (itV L).drop (i * 3)
  | L, 0 => by simp
  | [], i + 1 => by simp [itV]
  | x :: L, i + 1 => by
    rw [List.drop_succ_cons, itV_drop L i, itV_cons, show (i + 1) * 3 = 3 + i * 3 by omega, ← List.drop_drop]
    rfl
theorem itV_at {L : List (Nat × Bool)} {i : Nat} {x : Nat × Bool} (h : L[i]? = some x) : (itV L)[i * 3]? = some (.bool false) ∧ (itV L)[i * 3 + 1]? = some (.string (mg x.1)) ∧ (itV L)[i * 3 + 2]? = some (.bool x.2) := by
  have e : L.drop i = x :: L.drop (i + 1) := by
    obtain ⟨h1, h2⟩ := List.getElem?_eq_some_iff.1 h
    rw [← h2]; exact List.drop_eq_getElem_cons h1
  have h2 := itV_drop L i
  rw [e, itV_cons] at h2
  have at_ : ∀ k, (itV L)[i * 3 + k]? = ((itV L).drop (i * 3))[k]? := fun k => by rw [List.getElem?_drop]
  refine ⟨?_, ?_, ?_⟩
  · have := at_ 0; rw [Nat.add_zero] at this; rw [this, ← h2]; rfl
  · rw [at_ 1, ← h2]; rfl
  · rw [at_ 2, ← h2]; rfl
theorem itV_take {L : List (Nat × Bool)} {i : Nat} {x : Nat × Bool} (h : L[i]? = some x) : itV (L.take (i + 1)) = itV (L.take i) ++ [.bool false, .string (mg x.1), .bool x.2] := by
  rw [List.take_add_one, h, itV_app]; rfl
theorem itV_one : ∀ (L : List (Nat × Bool)) (u : Value), u ∈ itV L → u.oneCell' = true
  | [], u, h => by cases h
  | x :: L, u, h => by
    rw [itV_cons] at h
    rcases List.mem_append.1 h with h | h
    · simp only [List.mem_cons, List.not_mem_nil, or_false] at h
      rcases h with rfl | rfl | rfl <;> rfl
    · exact itV_one L u h
/-- A row of items reads. -/
def ItS (W : World) (b : Nat) (L : List (Nat × Bool)) : Prop := ∀ (m : Nat) (u : Value), (itV L)[m]? = some u → W.cell? ⟨b, m, none⟩ = some u
theorem ItS.below {W W' : World} {b : Nat} {L : List (Nat × Bool)} (h : ItS W b L) (hb : Below W.heap.size W W') : ItS W' b L := fun m u hm => (hb.cell (World.block_lt_of_cell? _ _ (h m u hm))).trans (h m u hm)
theorem ItS.grown {W W' : World} {b : Nat} {L : List (Nat × Bool)} {row : Option Nat} (h : ItS W b L) (hg : W.grownBy W' row) (hne : row ≠ some b) : ItS W' b L := fun m u hm =>
  (World.cell?_of_block (hg.block b (World.block_lt_of_cell? _ ⟨b, m, none⟩ (h m u hm)) (fun e => hne e.symm))).trans (h m u hm)
theorem ItS.set {W : World} {b p o : Nat} {v : Value} {L : List (Nat × Bool)} (h : ItS W b L) (hne : b ≠ p) : ItS (W.setCell ⟨p, o, none⟩ v) b L := fun m u hm => (World.cell?_setCell_other _ _ _ _ (fun e => hne (congrArg Addr.block e).symm)).trans (h m u hm)
theorem ItS.of {W : World} {g : Nat} {L : List (Nat × Bool)} (h : OwnAt W g (itV L)) : ItS W g L := fun _ _ hm => h.at hm
theorem addrA (b o k : Nat) : (⟨b, o, none⟩ : Addr).add k = ⟨b, o + k, none⟩ := by unfold Addr.add; split <;> simp_all
theorem infoIt : (Try.prog.info? 95).map (fun i => (i.zero, i.size, i.bytes)) = some (some (.agg #[.bool false, .string ⟨#[]⟩, .bool false]), 3, 32) := by kernel_rfl
set_option maxRecDepth 100000 in
set_option maxHeartbeats 1600000 in
/-- The comparison of two items. -/
theorem cmpIt_any (x y : Nat × Bool) (hx : x.1 < 2 ^ 200) (hy : y.1 < 2 ^ 200) (w : World) :
    Calls Try.prog 69 #[.agg #[.bool false, .string (mg x.1), .bool x.2], .agg #[.bool false, .string (mg y.1), .bool y.2]] w fun e w' => e = .returned (.int .i64 (cmpI (x.1 : Int) (y.1 : Int))) ∧ Below w.heap.size w w' := by
  have HC := Lib.hid (fun X => cCmpN (x := x.1) (d := y.1) 200 200 hx hy (by decide) (by decide) X)
  clear hx hy
  have b0 := BC.new w w.heap.size #[.bool false, .string (mg x.1), .bool x.2] 95 rfl
  have b1 := BC.new (w.alloc (.cells #[.bool false, .string (mg x.1), .bool x.2] 95)) (w.heap.size + 1) #[.bool false, .string (mg y.1), .bool y.2] 95 (by simp)
  have b0' := b0.alloc (.cells #[.bool false, .string (mg y.1), .bool y.2] 95)
  have hb : Below w.heap.size w ((w.alloc (.cells #[.bool false, .string (mg x.1), .bool x.2] 95)).alloc (.cells #[.bool false, .string (mg y.1), .bool y.2] 95)) := ((Below.refl _ _).alloc (Nat.le_refl _) _).alloc (by simp) _
  have c0 := b0'.at 0 _ rfl
  have c1 := b0'.at 1 _ rfl
  have d0 := b1.at 0 _ rfl
  have d1 := b1.at 1 _ rfl
  have HB := Lib.hid hb
  clear b0 b1 b0' hb
  go_enter Try.func69, Try.ntmps69
  go_wp2_with fail
  refine (HC.out _).mono ?_
  rintro e w1 ⟨rfl, hb1⟩
  go_wp2
  go_ret
  exact ⟨rfl, bstep HB.out hb1⟩
end Go.Proofs.Gv
