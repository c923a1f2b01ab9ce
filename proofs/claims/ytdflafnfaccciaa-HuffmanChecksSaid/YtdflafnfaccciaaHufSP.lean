/- The code tree, plainly: greater weights have no greater depths; the lengths of weights. -/
import Derived.Test.YtdflafnfaccciaaHufT
set_option linter.unusedSimpArgs false
set_option linter.unusedVariables false
namespace Go.Proofs.Gv

theorem le_sum {A : List Nat} {a : Nat} (h : a ∈ A) : a ≤ A.sum := by
  induction A with
  | nil => cases h
  | cons x A ih =>
    rw [List.sum_cons]
    rcases List.mem_cons.1 h with rfl | h
    · omega
    · have := ih h; omega
/-- How many weights of nought are added. -/
def padT (q n : Nat) : Nat := (q - 1 - (n - 1) % (q - 1)) % (q - 1)
def startL (q : Nat) (W : List Nat) : List (Nat × Bool) := (W ++ List.replicate (padT q W.length) 0).map fun w => (w, true)
def mergesH (q : Nat) (W : List Nat) : List (List (Nat × Nat)) := treeN q (startL q W).length (startL q W)
/-- The depths of all nodes. -/
def depH (q : Nat) (W : List Nat) : List Nat := depR (startL q W).length (mergesH q W) (List.replicate ((startL q W).length + (mergesH q W).length) 0)
/-- The lengths. -/
def lenH (q : Nat) (W : List Nat) : List Nat := (depH q W).take W.length
theorem cf_all (X : List Nat) : cf (X.map fun w => (w, true)) = X.length := by
  unfold cf
  rw [List.filter_eq_self.2 (by intro x hx; obtain ⟨w, -, rfl⟩ := List.mem_map.1 hx; rfl), List.length_map]
theorem padT_lt {q n : Nat} (hq : 2 ≤ q) : padT q n < q - 1 := Nat.mod_lt _ (by omega)
theorem padT_mod {q n : Nat} (hq : 2 ≤ q) (hn : 1 ≤ n) : (n + padT q n) % (q - 1) = 1 % (q - 1) := by
  unfold padT
  obtain ⟨r, hr⟩ : ∃ r, q - 1 = r + 1 := ⟨q - 2, by omega⟩
  rw [hr]
  obtain ⟨m, rfl⟩ : ∃ m, n = m + 1 := ⟨n - 1, by omega⟩
  rw [Nat.add_sub_cancel, Nat.add_mod, Nat.mod_mod, ← Nat.add_mod]
  have h1 := Nat.mod_lt m (show 0 < r + 1 by omega)
  have h2 := Nat.div_add_mod m (r + 1)
  have e : m + 1 + (r + 1 - m % (r + 1)) = 1 + (r + 1) * (m / (r + 1) + 1) := by rw [Nat.mul_add, Nat.mul_one]; omega
  rw [e, Nat.add_mul_mod_self_left]
theorem startL_len (q : Nat) (W : List Nat) : (startL q W).length = W.length + padT q W.length := by simp [startL]
theorem startL_cf (q : Nat) (W : List Nat) : cf (startL q W) = (startL q W).length := by unfold startL; rw [cf_all, List.length_map]
theorem startL_mod {q : Nat} (hq : 2 ≤ q) {W : List Nat} (h1 : 1 ≤ W.length) : cf (startL q W) % (q - 1) = 1 % (q - 1) := by
  rw [startL_cf, startL_len]; exact padT_mod hq h1
theorem startL_pos {q : Nat} {W : List Nat} (h1 : 1 ≤ W.length) : 0 < cf (startL q W) := by rw [startL_cf, startL_len]; omega
theorem depH_len (q : Nat) (W : List Nat) : (depH q W).length = (startL q W).length + (mergesH q W).length := by unfold depH; rw [depR_len, List.length_replicate]
theorem lenH_len (q : Nat) (W : List Nat) : (lenH q W).length = W.length := by
  unfold lenH
  rw [List.length_take, depH_len, startL_len]
  omega
theorem lenH_at {q : Nat} {W : List Nat} {i : Nat} (h : i < W.length) : (lenH q W)[i]? = some ((depH q W).getD i 0) := by
  have hl := depH_len q W
  rw [startL_len] at hl
  unfold lenH
  rw [List.getElem?_take, if_pos h, List.getD_eq_getElem?_getD, List.getElem?_eq_getElem (show i < (depH q W).length by omega)]
  rfl
end Go.Proofs.Gv

namespace Go.Proofs.Gv

/-- Free nodes taken one behind the other. -/
inductive Tk : List (Nat × Nat) → List (Nat × Bool) → List (Nat × Bool) → Prop
  | nil (l : List (Nat × Bool)) : Tk [] l l
  | cons {k w : Nat} {ns : List (Nat × Nat)} {l l' : List (Nat × Bool)} : l[k]? = some (w, true) → Tk ns (l.set k (w, false)) l' → Tk ((k, w) :: ns) l l'
structure Took (l l' : List (Nat × Bool)) (ns : List (Nat × Nat)) : Prop where
  size : l'.length = l.length
  cf : cf l = cf l' + ns.length
  at_ : ∀ x ∈ ns, l[x.1]? = some (x.2, true) ∧ l'[x.1]? = some (x.2, false)
  old : ∀ i w : Nat, l'[i]? = some (w, true) → l[i]? = some (w, true) ∧ ∀ x ∈ ns, x.1 ≠ i
  wt : ∀ i : Nat, (l'[i]?).map (·.1) = (l[i]?).map (·.1)
  sum : ∀ g, sf g l = (ns.map fun x => g x.1 x.2).sum + sf g l'
  perm : (fw l).Perm (ns.map (·.2) ++ fw l')
  stay : ∀ i w : Nat, l[i]? = some (w, true) → i ∉ ns.map (·.1) → l'[i]? = some (w, true)
theorem Tk.took {ns : List (Nat × Nat)} {l l' : List (Nat × Bool)} (h : Tk ns l l') : Took l l' ns := by
  induction h with
  | nil l => exact ⟨rfl, by simp, by simp, by simp, fun _ => rfl, by simp, by simp, fun i w hi _ => hi⟩
  | @cons k w ns l l' h1 h2 ih =>
    obtain ⟨hk, e⟩ := List.getElem?_eq_some_iff.1 h1
    have hk2 : (l.set k (w, false))[k]? = some (w, false) := by rw [List.getElem?_set_self hk]
    refine ⟨by rw [ih.size]; simp, by rw [cf_set h1, ih.cf]; exact Nat.add_assoc _ _ _, ?_, ?_, ?_, ?_, ?_, ?_⟩
    · intro x hx
      rcases List.mem_cons.1 hx with rfl | hx
      · refine ⟨h1, ?_⟩
        have h2 := ih.wt k
        rw [hk2] at h2
        cases h3 : l'[k]? with
        | none => rw [h3] at h2; cases h2
        | some y =>
          rw [h3] at h2
          obtain ⟨v, f⟩ := y
          simp at h2
          cases f with
          | false => rw [h2]
          | true =>
            have := (ih.old k v h3).1
            rw [hk2] at this
            simp at this
      · obtain ⟨a1, a2⟩ := ih.at_ x hx
        refine ⟨?_, a2⟩
        by_cases hxk : k = x.1
        · rw [← hxk, hk2] at a1; simp at a1
        · rwa [List.getElem?_set_ne hxk] at a1
    · intro i v hi
      obtain ⟨a1, a2⟩ := ih.old i v hi
      have hki : k ≠ i := fun e => by rw [← e, hk2] at a1; simp at a1
      rw [List.getElem?_set_ne hki] at a1
      refine ⟨a1, fun x hx => ?_⟩
      rcases List.mem_cons.1 hx with rfl | hx
      · exact hki
      · exact a2 x hx
    · intro i
      rw [ih.wt i]
      by_cases hki : k = i
      · subst hki; rw [hk2, h1]; rfl
      · rw [List.getElem?_set_ne hki]
    · intro g
      rw [sf_set g h1, ih.sum g, List.map_cons, List.sum_cons, Nat.add_assoc]
    · refine (fw_set h1).trans ?_
      rw [List.map_cons, List.cons_append]
      exact ih.perm.cons w
    · intro i v hi hn
      rw [List.map_cons, List.mem_cons, not_or] at hn
      exact ih.stay i v (by rw [List.getElem?_set_ne (fun e => hn.1 e.symm)]; exact hi) hn.2
theorem takeN_tk : ∀ (q : Nat) (l : List (Nat × Bool)), q ≤ cf l → Tk (takeN q l).1 l (takeN q l).2
  | 0, l, _ => .nil l
  | q + 1, l, h => by
    obtain ⟨k, w, hl⟩ := cf_pos (l := l) (by omega)
    have hL := leastO_some hl
    have hc := cf_set hL.1
    rw [takeN_succ hl]
    exact .cons hL.1 (takeN_tk q _ (by omega))
def sumW (ns : List (Nat × Nat)) : Nat := (ns.map (·.2)).sum
/-- Merges of q free nodes each, till one is free. -/
inductive Ms (q : Nat) : List (Nat × Bool) → List (List (Nat × Nat)) → Prop
  | nil {l : List (Nat × Bool)} : cf l = 1 → Ms q l []
  | cons {l l' : List (Nat × Bool)} {ns : List (Nat × Nat)} {ms : List (List (Nat × Nat))} : Tk ns l l' → ns.length = q → Ms q (l' ++ [(sumW ns, true)]) ms → Ms q l (ns :: ms)
theorem treeN_ms {q : Nat} (hq : 2 ≤ q) : ∀ (n : Nat) (l : List (Nat × Bool)), cf l ≤ n → 0 < cf l → cf l % (q - 1) = 1 % (q - 1) → Ms q l (treeN q n l)
  | 0, l, h, h0, _ => by omega
  | n + 1, l, h, h0, hm => by
    by_cases h1 : cf l ≤ 1
    · rw [treeN_one h1]; exact .nil (by omega)
    · have hr := mod_room hq hm (by omega)
      have hc := cf_next hq hr
      rw [treeN_succ h1]
      exact .cons (takeN_tk q l hr) (takeN_spec q l hr).len (treeN_ms hq n (nextL q l) (by omega) (by have := cf_snoc (takeN q l).2 (((takeN q l).1.map (·.2)).sum); unfold nextL; omega) (mod_next hq hr hm))
theorem Ms.len {q : Nat} (hq : 2 ≤ q) {l : List (Nat × Bool)} {ms : List (List (Nat × Nat))} (h : Ms q l ms) : ms.length * (q - 1) + 1 = cf l := by
  induction h with
  | nil h => simp [h]
  | @cons l l' ns ms h1 h2 _ ih =>
    have := h1.took.cf
    rw [cf_snoc] at ih
    rw [List.length_cons, Nat.add_mul, Nat.one_mul]
    omega
/-- The sums of merges that always join the least ones. -/
inductive MsL (q : Nat) : List (Nat × Bool) → List (List (Nat × Nat)) → Prop
  | nil {l : List (Nat × Bool)} : cf l = 1 → MsL q l []
  | cons {l l' : List (Nat × Bool)} {ns : List (Nat × Nat)} {ms : List (List (Nat × Nat))} : Tk ns l l' → ns.length = q → (∀ x ∈ ns, ∀ b ∈ fw l', x.2 ≤ b) → MsL q (l' ++ [(sumW ns, true)]) ms → MsL q l (ns :: ms)
theorem MsL.ms {q : Nat} {l : List (Nat × Bool)} {ms : List (List (Nat × Nat))} (h : MsL q l ms) : Ms q l ms := by
  induction h with
  | nil h => exact .nil h
  | cons h1 h2 _ _ ih => exact .cons h1 h2 ih
end Go.Proofs.Gv
