/- Changed tables, longer lengths: plainly, and in the world. -/
import Derived.Test.YtlbgkhjelbadmaaAcnP
set_option linter.unusedSimpArgs false
set_option linter.unusedVariables false
namespace Go.Proofs.Gv
open Go Go.RowKit Go.Maps

theorem rowsO_tab (Ws : List Nat) : rowsO Ws.length (tabM Ws) = true := by
  unfold rowsO
  refine List.all_eq_true.2 fun j hj => ?_
  rw [List.getD_eq_getElem?_getD, tabM_at (List.mem_range.1 hj), Option.getD_some, VL_len, tabR_len, beq_iff_eq]
theorem chk_same {Ws : List Nat} (h2 : 2 ≤ Ws.length) (h64 : Ws.length ≤ 64) : chkB Ws (tabM Ws) (alD Ws.length Ws) = 0 := by
  obtain ⟨h1, h3, h4, -⟩ := fit_best h2 h64
  unfold chkB
  rw [if_neg (by rw [tabM_len, h4]; simp), if_neg (by rw [rowsO_tab]; simp), if_neg (fun h => h rfl), if_neg (by rw [h1]; simp), if_neg (by rw [h3]; simp)]
theorem set_row_len {M : List (List (Bool × ByteArray))} {m : Nat} {row row' : List (Bool × ByteArray)} (hm : M[m]? = some row) (hl : row'.length = row.length) (j : Nat) : ((M.set m row').getD j []).length = (M.getD j []).length := by
  rw [List.getD_eq_getElem?_getD, List.getD_eq_getElem?_getD, List.getElem?_set]
  have hml := (List.getElem?_eq_some_iff.1 hm).1
  by_cases h : m = j
  · subst h
    rw [if_pos rfl, if_pos hml, hm, Option.getD_some, Option.getD_some, hl]
  · rw [if_neg h]
theorem chk_changed {Ws : List Nat} (h2 : 2 ≤ Ws.length) (h64 : Ws.length ≤ 64) {m k : Nat} {row : List (Bool × ByteArray)} {x : Bool × ByteArray} (hm : (tabM Ws)[m]? = some row) (hk : row[k]? = some x) {y : Bool × ByteArray} (hxy : x ≠ y) :
    chkB Ws ((tabM Ws).set m (row.set k y)) (alD Ws.length Ws) = 23 := by
  obtain ⟨h1, h3, h4, -⟩ := fit_best h2 h64
  unfold chkB
  have hro : rowsO Ws.length ((tabM Ws).set m (row.set k y)) = true := by
    have := rowsO_tab Ws
    unfold rowsO at this ⊢
    refine List.all_eq_true.2 fun j hj => ?_
    have h := List.all_eq_true.1 this j hj
    rw [set_row_len hm (List.length_set ..)]
    exact h
  rw [if_neg (by rw [List.length_set, tabM_len, h4]; simp), if_neg (by rw [hro]; simp), if_pos]
  intro e
  have h5 : ((tabM Ws).set m (row.set k y))[m]? = (tabM Ws)[m]? := by rw [e]
  have hml := (List.getElem?_eq_some_iff.1 hm).1
  have hkl := (List.getElem?_eq_some_iff.1 hk).1
  rw [List.getElem?_set, if_pos rfl, if_pos hml, hm] at h5
  have h6 : (row.set k y)[k]? = row[k]? := by rw [Option.some.inj h5]
  rw [List.getElem?_set, if_pos rfl, if_pos hkl, hk] at h6
  exact hxy (Option.some.inj h6).symm
theorem csP_set : ∀ (W l : List Nat) (j d x : Nat), W[j]? = some x → l[j]? = some d → csP (W.zip (l.set j (d + 1))) = csP (W.zip l) + x
  | w :: W, c :: l, 0, d, x, hx, hd => by
    simp at hx hd
    subst hx hd
    rw [List.set_cons_zero, List.zip_cons_cons, List.zip_cons_cons, csP_cons, csP_cons]
    show w * (c + 1) + _ = w * c + _ + w
    rw [Nat.mul_add, Nat.mul_one]
    omega
  | w :: W, c :: l, j + 1, d, x, hx, hd => by
    have := csP_set W l j d x (by simpa using hx) (by simpa using hd)
    rw [List.set_cons_succ, List.zip_cons_cons, List.zip_cons_cons, csP_cons, csP_cons, this]
    omega
  | [], _, j, d, x, hx, hd => by simp at hx
  | _ :: _, [], j, d, x, hx, hd => by simp at hd
theorem chk_longer {Ws : List Nat} (h2 : 2 ≤ Ws.length) (h64 : Ws.length ≤ 64) {j d x : Nat} (hx : Ws[j]? = some x) (hd : (alD Ws.length Ws)[j]? = some d) (h0 : x ≠ 0) :
    chkB Ws (tabM Ws) ((alD Ws.length Ws).set j (d + 1)) = 23 := by
  obtain ⟨h1, h3, h4, -⟩ := fit_best h2 h64
  unfold chkB
  rw [if_neg (by rw [tabM_len, List.length_set, h4]; simp), if_neg (by rw [rowsO_tab]; simp), if_neg (fun h => h rfl)]
  split
  · rfl
  · rw [if_pos]
    rw [csum_csP, csP_set _ _ _ _ _ hx hd, ← csum_csP, h3]
    omega
theorem chk_less {Ws : List Nat} (h2 : 2 ≤ Ws.length) (l : List Nat) : chkB Ws ((tabM Ws).drop 1) l = 11 := by
  unfold chkB
  rw [if_pos]
  left
  rw [List.length_drop, tabM_len]
  omega
theorem Sl.at_own {W : World} {g : Nat} {L : List (Bool × ByteArray)} (h : OwnAt W g (inV L)) : Sl W (Option.some ⟨g, 0, none⟩) L := by
  intro i n s hi
  obtain ⟨h1, h2⟩ := inV_at L i n s hi
  exact ⟨_, rfl, by rw [addr0]; exact h.at h1, by rw [addr0]; exact h.at h2⟩
theorem inV_set : ∀ (R : List (Bool × ByteArray)) (k : Nat) (b : Bool) (s : ByteArray), k < R.length → ((inV R).set (k * 2) (.bool b)).set (k * 2 + 1) (.string s) = inV (R.set k (b, s))
  | x :: r, 0, b, s, _ => by simp [inV]
  | x :: r, k + 1, b, s, h => by
    have := inV_set r k b s (by simpa using h)
    rw [show (k + 1) * 2 = k * 2 + 1 + 1 by omega, List.set_cons_succ]
    show _ = .bool x.1 :: .string x.2 :: inV (r.set k (b, s))
    rw [← this]
    rfl
theorem NR2.at_own {W : World} {g c : Nat} {ds : List Nat} (h : OwnAt W g (natV ds)) (h1 : ds.length ≤ c) (h2 : c ≤ maxLen) : NR2 W (.slice (some ⟨g, 0, none⟩) ds.length c) ds :=
  ⟨g, c, rfl, h1, h2, fun i d hi => h.at (by unfold natV; rw [List.getElem?_map, hi]; rfl)⟩
theorem chg_rows {Y X : World} {G : Addr} {cG : Nat} {M : List (List (Bool × ByteArray))} (hT : RwS Y (.slice (some G) M.length cG) M) (hb : Below Y.heap.size Y X) {p5 p6 c5 c6 m : Nat} {row row' : List (Bool × ByteArray)} (hm : M[m]? = some row) (hl : row'.length = row.length)
    (h5 : OwnAt X p5 ((rvs Y G M.length).set m (.slice (some ⟨p6, 0, none⟩) row.length c6))) (h6 : OwnAt X p6 (inV row')) (hc5 : M.length ≤ c5 ∧ c5 ≤ maxLen) (hc6 : row.length ≤ c6 ∧ c6 ≤ maxLen) : RwS X (.slice (some ⟨p5, 0, none⟩) M.length c5) (M.set m row') := by
  obtain ⟨G', c', e, -, -, hat⟩ := hT
  cases e
  have hml := (List.getElem?_eq_some_iff.1 hm).1
  refine ⟨⟨p5, 0, none⟩, c5, by rw [List.length_set], by rw [List.length_set]; exact hc5.1, hc5.2, fun i r hi => ?_⟩
  rw [List.getElem?_set] at hi
  by_cases h : m = i
  · subst h
    rw [if_pos rfl, if_pos hml] at hi
    cases hi
    refine ⟨_, c6, by rw [addr0, hl]; exact h5.at (by rw [List.getElem?_set, if_pos rfl, if_pos (by rw [rvs_len]; exact hml)]), by rw [hl]; exact hc6.1, hc6.2, Sl.at_own h6⟩
  · rw [if_neg h] at hi
    obtain ⟨Ai, ci, f1, f2, f3, f4⟩ := hat i r hi
    have hil := (List.getElem?_eq_some_iff.1 hi).1
    exact ⟨Ai, ci, by rw [addr0]; exact h5.at (by rw [List.getElem?_set, if_neg h]; exact rvs_at hil f1), f2, f3, f4.below hb⟩
theorem add_add1 (G : Addr) (i : Nat) : (G.add 1).add i = G.add (1 + i) := by unfold Addr.add; by_cases h : i = 0 <;> simp [h, Nat.add_assoc]
theorem less_rows {X : World} {G : Addr} {cG n : Nat} {M : List (List (Bool × ByteArray))} (hT : RwS X (.slice (some G) n cG) M) (hn : M.length = n) (h1 : 1 ≤ n) : RwS X (.slice (some (G.add 1)) (n - 1) (cG - 1)) (M.drop 1) := by
  subst hn
  obtain ⟨G', c', e, h2, h3, hat⟩ := hT
  cases e
  refine ⟨_, _, by rw [List.length_drop], by rw [List.length_drop]; omega, by omega, fun i r hi => ?_⟩
  rw [List.getElem?_drop] at hi
  rw [add_add1]
  exact hat (1 + i) r hi
end Go.Proofs.Gv
