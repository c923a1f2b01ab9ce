import Derived.Test.YtfhncfphphieiaaGreatHordP
set_option linter.unusedSimpArgs false
set_option linter.unusedVariables false
namespace Go.Proofs.Gv
def sfG (g : Nat → Nat → Nat) : Nat → List (Nat × Bool) → Nat
 | _, [] => 0
 | i, (w, f) :: r => (if f then g i w else 0) + sfG g (i + 1) r
def sf (g : Nat → Nat → Nat) (l : List (Nat × Bool)) : Nat := sfG g 0 l
def fw (l : List (Nat × Bool)) : List Nat := (l.filter (·.2)).map (·.1)
def cf (l : List (Nat × Bool)) : Nat := (l.filter (·.2)).length
theorem fw_len (l : List (Nat × Bool)) : (fw l).length = cf l := by simp [fw, cf]
def leastG : Nat → List (Nat × Bool) → Option (Nat × Nat)
 | _, [] => none
 | i, (w, f) :: r => match leastG (i + 1) r with
   | none => if f then some (i, w) else none
   | some (k, v) => if f && decide (w ≤ v) then some (i, w) else some (k, v)
def leastO (l : List (Nat × Bool)) : Option (Nat × Nat) := leastG 0 l
def IsLeast (l : List (Nat × Bool)) (k w : Nat) : Prop := l[k]? = some (w, true) ∧ ∀ i v : Nat, l[i]? = some (v, true) → w < v ∨ (w = v ∧ k ≤ i)
theorem leastG_none : ∀ (l : List (Nat × Bool)) (o : Nat), leastG o l = none → ∀ (i w : Nat), l[i]? ≠ some (w, true)
 | [], _, _, i, w => by simp
 | (v, f) :: r, o, h, i, w => by
   unfold leastG at h
   cases hr : leastG (o + 1) r with
   | none =>
     rw [hr] at h
     cases f with
     | true => simp at h
     | false =>
       cases i with
       | zero => simp
       | succ i => simpa using leastG_none r (o + 1) hr i w
   | some x =>
     rw [hr] at h
     simp only at h
     split at h <;> cases h
theorem leastG_some : ∀ (l : List (Nat × Bool)) (o k w : Nat), leastG o l = some (k, w) → ∃ j, k = o + j ∧ IsLeast l j w
 | [], _, k, w, h => by cases h
 | (v, f) :: r, o, k, w, h => by
   unfold leastG at h
   cases hr : leastG (o + 1) r with
   | none =>
     rw [hr] at h
     have hn := leastG_none r _ hr
     cases f with
     | false => simp at h
     | true =>
       simp only [if_true, Option.some.injEq, Prod.mk.injEq] at h
       obtain ⟨rfl, rfl⟩ := h
       refine ⟨0, rfl, rfl, fun i u hi => ?_⟩
       cases i with
       | zero => simp at hi; exact .inr ⟨hi, Nat.le_refl _⟩
       | succ i => exact absurd (by simpa using hi) (hn i u)
   | some x =>
     obtain ⟨k', v'⟩ := x
     rw [hr] at h
     obtain ⟨j, rfl, h1, h2⟩ := leastG_some r (o + 1) k' v' hr
     simp only at h
     split at h
     ·rename_i hc
      simp only [Bool.and_eq_true, decide_eq_true_eq] at hc
      simp only [Option.some.injEq, Prod.mk.injEq] at h
      obtain ⟨rfl, rfl⟩ := h
      obtain ⟨rfl, hle⟩ := hc
      refine ⟨0, rfl, rfl, fun i u hi => ?_⟩
      cases i with
      | zero => simp at hi; exact .inr ⟨hi, Nat.le_refl _⟩
      | succ i =>
        have := h2 i u (by simpa using hi)
        omega
     ·rename_i hc
      simp only [Option.some.injEq, Prod.mk.injEq] at h
      obtain ⟨rfl, rfl⟩ := h
      refine ⟨j + 1, by omega, by simpa using h1, fun i u hi => ?_⟩
      cases i with
      | zero =>
        simp only [List.getElem?_cons_zero, Option.some.injEq, Prod.mk.injEq] at hi
        obtain ⟨rfl, rfl⟩ := hi
        simp at hc
        exact .inl hc
      | succ i =>
        have := h2 i u (by simpa using hi)
        omega
theorem leastO_some {l : List (Nat × Bool)} {k w : Nat} (h : leastO l = some (k, w)) : IsLeast l k w := by
 obtain ⟨j, rfl, h⟩ := leastG_some l 0 k w h
 rwa [Nat.zero_add]
theorem IsLeast.uniq {l : List (Nat × Bool)} {k w k' w' : Nat} (h : IsLeast l k w) (h' : IsLeast l k' w') : k = k' ∧ w = w' := by
 have h1 := h.2 k' w' h'.1
 have h2 := h'.2 k w h.1
 omega
theorem IsLeast.eq {l : List (Nat × Bool)} {k w : Nat} (h : IsLeast l k w) : leastO l = some (k, w) := by
 cases hl : leastO l with
 | none => exact absurd h.1 (leastG_none l 0 hl k w)
 | some x =>
   obtain ⟨a, b⟩ := h.uniq (leastO_some (k := x.1) (w := x.2) hl)
   rw [a, b]
theorem cf_pos {l : List (Nat × Bool)} (h : 0 < cf l) : ∃ k w, leastO l = some (k, w) := by
 cases hl : leastO l with
 | some x => exact ⟨x.1, x.2, rfl⟩
 | none =>
   obtain ⟨x, hx⟩ := List.exists_mem_of_length_pos h
   obtain ⟨h1, h2⟩ := List.mem_filter.1 hx
   obtain ⟨i, hi⟩ := List.getElem?_of_mem h1
   exact absurd (by rw [hi]; obtain ⟨w, f⟩ := x; simp at h2; rw [h2]) (leastG_none l 0 hl i x.1)
theorem set_split {l : List (Nat × Bool)} {k w : Nat} (h : l[k]? = some (w, true)) : ∃ a b, l = a ++ (w, true) :: b ∧ a.length = k ∧ ∀ x, l.set k x = a ++ x :: b := by
 obtain ⟨hk, e⟩ := List.getElem?_eq_some_iff.1 h
 refine ⟨l.take k, l.drop (k + 1), ?_, by simp; omega, fun x => ?_⟩
 ·rw [← e, ← List.drop_eq_getElem_cons hk, List.take_append_drop]
 ·rw [List.set_eq_take_append_cons_drop, if_pos hk]
theorem sfG_append (g : Nat → Nat → Nat) : ∀ (a b : List (Nat × Bool)) (o : Nat), sfG g o (a ++ b) = sfG g o a + sfG g (o + a.length) b
 | [], b, o => by simp [sfG]
 | x :: a, b, o => by
   simp only [List.cons_append, sfG, List.length_cons]
   rw [sfG_append g a b, show o + 1 + a.length = o + (a.length + 1) by omega, Nat.add_assoc]
theorem sf_set (g : Nat → Nat → Nat) {l : List (Nat × Bool)} {k w : Nat} (h : l[k]? = some (w, true)) : sf g l = g k w + sf g (l.set k (w, false)) := by
 obtain ⟨a, b, e, rfl, hs⟩ := set_split h
 rw [hs, e]
 unfold sf
 simp only [sfG_append, sfG, Nat.zero_add, if_true]
 simp
 omega
theorem sf_snoc (g : Nat → Nat → Nat) (l : List (Nat × Bool)) (s : Nat) : sf g (l ++ [(s, true)]) = sf g l + g l.length s := by
 unfold sf
 rw [sfG_append]
 simp [sfG]
theorem sfG_congr {g g' : Nat → Nat → Nat} : ∀ {l : List (Nat × Bool)} {o : Nat}, (∀ i w : Nat, l[i]? = some (w, true) → g (o + i) w = g' (o + i) w) → sfG g o l = sfG g' o l
 | [], _, _ => rfl
 | (w, f) :: r, o, h => by
   have ih := sfG_congr (g := g) (g' := g') (l := r) (o := o + 1) fun i v hi => by
    have := h (i + 1) v (by simpa using hi)
    rwa [show o + (i + 1) = o + 1 + i by omega] at this
   cases f with
   | false => simp [sfG, ih]
   | true =>
     have := h 0 w rfl
     rw [Nat.add_zero] at this
     simp [sfG, ih, this]
theorem sf_congr {g g' : Nat → Nat → Nat} {l : List (Nat × Bool)} (h : ∀ i w : Nat, l[i]? = some (w, true) → g i w = g' i w) : sf g l = sf g' l :=
 sfG_congr fun i w hi => by rw [Nat.zero_add]; exact h i w hi
theorem fw_set {l : List (Nat × Bool)} {k w : Nat} (h : l[k]? = some (w, true)) : (fw l).Perm (w :: fw (l.set k (w, false))) := by
 obtain ⟨a, b, e, -, hs⟩ := set_split h
 rw [hs, e]
 unfold fw
 simp only [List.filter_append, List.filter_cons, if_true, List.map_append, List.map_cons]
 simp only [Bool.false_eq_true, if_false]
 exact List.perm_middle
theorem cf_set {l : List (Nat × Bool)} {k w : Nat} (h : l[k]? = some (w, true)) : cf l = cf (l.set k (w, false)) + 1 := by
 have := (fw_set h).length_eq
 rw [fw_len, List.length_cons, fw_len] at this
 exact this
theorem fw_snoc (l : List (Nat × Bool)) (s : Nat) : fw (l ++ [(s, true)]) = fw l ++ [s] := by simp [fw, List.filter_append]
theorem cf_snoc (l : List (Nat × Bool)) (s : Nat) : cf (l ++ [(s, true)]) = cf l + 1 := by simp [cf, List.filter_append]
theorem mem_fw {l : List (Nat × Bool)} {w : Nat} : w ∈ fw l ↔ ∃ i : Nat, l[i]? = some (w, true) := by
 unfold fw
 rw [List.mem_map]
 constructor
 ·rintro ⟨x, hx, rfl⟩
  obtain ⟨h1, h2⟩ := List.mem_filter.1 hx
  obtain ⟨i, hi⟩ := List.getElem?_of_mem h1
  exact ⟨i, by rw [hi]; obtain ⟨w, f⟩ := x; simp at h2; rw [h2]⟩
 ·rintro ⟨i, hi⟩
  exact ⟨(w, true), List.mem_filter.2 ⟨List.mem_of_getElem? hi, rfl⟩, rfl⟩
def takeN : Nat → List (Nat × Bool) → List (Nat × Nat) × List (Nat × Bool)
 | 0, l => ([], l)
 | q + 1, l => match leastO l with
   | none => ([], l)
   | some (k, w) => ((k, w) :: (takeN q (l.set k (w, false))).1, (takeN q (l.set k (w, false))).2)
theorem takeN_succ {q : Nat} {l : List (Nat × Bool)} {k w : Nat} (h : leastO l = some (k, w)) : takeN (q + 1) l = ((k, w) :: (takeN q (l.set k (w, false))).1, (takeN q (l.set k (w, false))).2) := by
 simp only [takeN, h]
structure Taken (q : Nat) (l l' : List (Nat × Bool)) (ns : List (Nat × Nat)) : Prop where
 len : ns.length = q
 size : l'.length = l.length
 cf : cf l = cf l' + q
 at_ : ∀ x ∈ ns, l[x.1]? = some (x.2, true) ∧ l'[x.1]? = some (x.2, false)
 old : ∀ i w : Nat, l'[i]? = some (w, true) → l[i]? = some (w, true) ∧ ∀ x ∈ ns, x.1 ≠ i
 wt : ∀ i : Nat, (l'[i]?).map (·.1) = (l[i]?).map (·.1)
 sum : ∀ g, sf g l = (ns.map fun x => g x.1 x.2).sum + sf g l'
 perm : (fw l).Perm (ns.map (·.2) ++ fw l')
 le : ∀ x ∈ ns, ∀ b ∈ fw l', x.2 ≤ b
 nodup : (ns.map (·.1)).Nodup
theorem takeN_spec : ∀ (q : Nat) (l : List (Nat × Bool)), q ≤ cf l → Taken q l (takeN q l).2 (takeN q l).1
 | 0, l, _ => ⟨rfl, rfl, rfl, by simp [takeN], by simp [takeN], fun _ => rfl, by simp [takeN], by simp [takeN], by simp [takeN], by simp [takeN]⟩
 | q + 1, l, h => by
   obtain ⟨k, w, hl⟩ := cf_pos (l := l) (by omega)
   have hL := leastO_some hl
   have hc := cf_set hL.1
   have ih := takeN_spec q (l.set k (w, false)) (by omega)
   rw [takeN_succ hl]
   obtain ⟨hk, e⟩ := List.getElem?_eq_some_iff.1 hL.1
   have hk2 : (l.set k (w, false))[k]? = some (w, false) := by rw [List.getElem?_set_self hk]
   refine ⟨by simp [ih.len], by rw [ih.size]; simp, by rw [hc, ih.cf]; exact (Nat.add_assoc _ _ _), ?_, ?_, ?_, ?_, ?_, ?_, ?_⟩
   ·intro x hx
    rcases List.mem_cons.1 hx with rfl | hx
    ·refine ⟨hL.1, ?_⟩
     have h2 := ih.wt k
     rw [hk2] at h2
     cases h3 : (takeN q (l.set k (w, false))).2[k]? with
     | none => rw [h3] at h2; cases h2
     | some y =>
       rw [h3] at h2
       obtain ⟨v, f⟩ := y
       simp at h2
       cases f with
       | false => rw [h2]
       | true =>
         have := (ih.old k v h3).1
         rw [hk2] at this
         simp at this
    ·obtain ⟨a1, a2⟩ := ih.at_ x hx
     refine ⟨?_, a2⟩
     by_cases hxk : k = x.1
     ·rw [← hxk, hk2] at a1; simp at a1
     ·rwa [List.getElem?_set_ne hxk] at a1
   ·intro i v hi
    obtain ⟨a1, a2⟩ := ih.old i v hi
    have hki : k ≠ i := fun e => by rw [← e, hk2] at a1; simp at a1
    rw [List.getElem?_set_ne hki] at a1
    refine ⟨a1, fun x hx => ?_⟩
    rcases List.mem_cons.1 hx with rfl | hx
    ·exact hki
    ·exact a2 x hx
   ·intro i
    rw [ih.wt i]
    by_cases hki : k = i
    ·subst hki; rw [hk2, hL.1]; rfl
    ·rw [List.getElem?_set_ne hki]
   ·intro g
    rw [sf_set g hL.1, ih.sum g, List.map_cons, List.sum_cons, Nat.add_assoc]
   ·refine (fw_set hL.1).trans ?_
    rw [List.map_cons, List.cons_append]
    exact ih.perm.cons w
   ·intro x hx b hb
    rcases List.mem_cons.1 hx with rfl | hx
    ·obtain ⟨i, hi⟩ := mem_fw.1 hb
     obtain ⟨a1, -⟩ := ih.old i b hi
     by_cases hki : k = i
     ·rw [← hki, hk2] at a1; simp at a1
     ·rw [List.getElem?_set_ne hki] at a1
      have := hL.2 i b a1
      show w ≤ b
      omega
    ·exact ih.le x hx b hb
   ·rw [List.map_cons, List.nodup_cons]
    refine ⟨fun hm => ?_, ih.nodup⟩
    obtain ⟨x, hx, e⟩ := List.mem_map.1 hm
    have := (ih.at_ x hx).1
    rw [e, hk2] at this
    simp at this
def treeN (q : Nat) : Nat → List (Nat × Bool) → List (List (Nat × Nat))
 | 0, _ => []
 | n + 1, l => if cf l ≤ 1 then [] else (takeN q l).1 :: treeN q n ((takeN q l).2 ++ [(((takeN q l).1.map (·.2)).sum, true)])
def nextL (q : Nat) (l : List (Nat × Bool)) : List (Nat × Bool) := (takeN q l).2 ++ [(((takeN q l).1.map (·.2)).sum, true)]
theorem treeN_succ {q n : Nat} {l : List (Nat × Bool)} (h : ¬ cf l ≤ 1) : treeN q (n + 1) l = (takeN q l).1 :: treeN q n (nextL q l) := by
 simp only [treeN, if_neg h, nextL]
theorem treeN_one {q n : Nat} {l : List (Nat × Bool)} (h : cf l ≤ 1) : treeN q n l = [] := by
 cases n with
 | zero => rfl
 | succ n => simp only [treeN, if_pos h]
def sumsT (ms : List (List (Nat × Nat))) : Nat := (ms.map fun ns => (ns.map (·.2)).sum).sum
theorem Red.perm {q : Nat} {W W' : List Nat} {c : Nat} (h : Red q W c) (hp : W.Perm W') : Red q W' c := by
 cases h with
 | one w => rw [List.perm_singleton.1 hp.symm]; exact .one w
 | step h1 h2 h3 h4 => exact .step (hp.symm.trans h1) h2 h3 h4
theorem mod_room {q m : Nat} (hq : 2 ≤ q) (h1 : m % (q - 1) = 1 % (q - 1)) (h2 : 1 < m) : q ≤ m := by
 rcases Nat.lt_or_ge m q with h | h
 ·exfalso
  obtain ⟨r, rfl⟩ : ∃ r, q = r + 1 := ⟨q - 1, by omega⟩
  rw [Nat.add_sub_cancel] at h1
  have e : m = r ∨ m < r := by omega
  rcases e with rfl | e
  ·rw [Nat.mod_self] at h1
   rcases Nat.lt_or_ge 1 m with h3 | h3
   ·rw [Nat.mod_eq_of_lt h3] at h1; omega
   ·omega
  ·rw [Nat.mod_eq_of_lt e, Nat.mod_eq_of_lt (by omega)] at h1
   omega
 ·exact h
theorem cf_next {q : Nat} (hq : 2 ≤ q) {l : List (Nat × Bool)} (h1 : q ≤ cf l) : cf (nextL q l) + (q - 1) = cf l := by
 have := (takeN_spec q l h1).cf
 unfold nextL
 rw [cf_snoc]
 omega
theorem mod_next {q : Nat} (hq : 2 ≤ q) {l : List (Nat × Bool)} (h1 : q ≤ cf l) (hm : cf l % (q - 1) = 1 % (q - 1)) : cf (nextL q l) % (q - 1) = 1 % (q - 1) := by
 rw [← hm, ← cf_next hq h1, Nat.add_mod_right]
theorem treeN_red {q : Nat} (hq : 2 ≤ q) : ∀ (n : Nat) (l : List (Nat × Bool)), cf l ≤ n → 0 < cf l → cf l % (q - 1) = 1 % (q - 1) → Red q (fw l) (sumsT (treeN q n l))
 | 0, l, h, h0, _ => by omega
 | n + 1, l, h, h0, hm => by
   by_cases h1 : cf l ≤ 1
   ·rw [treeN_one h1]
    obtain ⟨w, hw⟩ := List.length_eq_one_iff.1 (show (fw l).length = 1 by rw [fw_len]; omega)
    rw [hw]
    exact .one w
   ·have hr := mod_room hq hm (by omega)
    have hT := takeN_spec q l hr
    have hc := cf_next hq hr
    rw [treeN_succ h1]
    have ih := treeN_red hq n (nextL q l) (by omega) (by have := cf_snoc (takeN q l).2 (((takeN q l).1.map (·.2)).sum); unfold nextL; omega) (mod_next hq hr hm)
    unfold sumsT
    rw [List.map_cons, List.sum_cons]
    refine .step hT.perm (by rw [List.length_map]; exact hT.len) (fun a ha b hb => ?_) (ih.perm ?_)
    ·obtain ⟨x, hx, rfl⟩ := List.mem_map.1 ha
     exact hT.le x hx b hb
    ·unfold nextL
     rw [fw_snoc]
     exact List.perm_append_singleton _ _
theorem treeN_len {q : Nat} (hq : 2 ≤ q) : ∀ (n : Nat) (l : List (Nat × Bool)), cf l ≤ n → 0 < cf l → cf l % (q - 1) = 1 % (q - 1) → (treeN q n l).length * (q - 1) + 1 = cf l
 | 0, l, h, h0, _ => by omega
 | n + 1, l, h, h0, hm => by
   by_cases h1 : cf l ≤ 1
   ·rw [treeN_one h1]; simp; omega
   ·have hr := mod_room hq hm (by omega)
    have hc := cf_next hq hr
    rw [treeN_succ h1, List.length_cons, Nat.add_mul, Nat.one_mul]
    have ih := treeN_len hq n (nextL q l) (by omega) (by have := cf_snoc (takeN q l).2 (((takeN q l).1.map (·.2)).sum); unfold nextL; omega) (mod_next hq hr hm)
    omega
def depStep (p : Nat) (ns : List (Nat × Nat)) (d : List Nat) : List Nat := ns.foldl (fun d x => d.set x.1 (d.getD p 0 + 1)) d
def depR : Nat → List (List (Nat × Nat)) → List Nat → List Nat
 | _, [], d => d
 | p, ns :: r, d => depStep p ns (depR (p + 1) r d)
theorem depStep_len (p : Nat) : ∀ (ns : List (Nat × Nat)) (d : List Nat), (depStep p ns d).length = d.length
 | [], d => rfl
 | x :: ns, d => by
   have := depStep_len p ns (d.set x.1 (d.getD p 0 + 1))
   unfold depStep at this ⊢
   rw [List.foldl_cons, this, List.length_set]
theorem depR_len : ∀ (ms : List (List (Nat × Nat))) (p : Nat) (d : List Nat), (depR p ms d).length = d.length
 | [], _, _ => rfl
 | ns :: r, p, d => by rw [depR, depStep_len, depR_len r]
theorem depStep_at (p : Nat) : ∀ (ns : List (Nat × Nat)) (d : List Nat), (∀ x ∈ ns, x.1 ≠ p ∧ x.1 < d.length) → ∀ i, (depStep p ns d).getD i 0 = if i ∈ ns.map (·.1) then d.getD p 0 + 1 else d.getD i 0
 | [], d, _, i => by simp [depStep]
 | x :: ns, d, h, i => by
   have hx := h x (List.mem_cons_self ..)
   have e : depStep p (x :: ns) d = depStep p ns (d.set x.1 (d.getD p 0 + 1)) := rfl
   have hp : (d.set x.1 (d.getD p 0 + 1)).getD p 0 = d.getD p 0 := by
    simp only [List.getD_eq_getElem?_getD]
    rw [List.getElem?_set_ne hx.1]
   rw [e, depStep_at p ns _ (fun y hy => by rw [List.length_set]; exact h y (List.mem_cons_of_mem _ hy)), hp]
   by_cases h1 : i ∈ ns.map (·.1)
   ·rw [if_pos h1, if_pos (by rw [List.map_cons]; exact List.mem_cons_of_mem _ h1)]
   ·rw [if_neg h1]
    by_cases h2 : x.1 = i
    ·rw [if_pos (by rw [List.map_cons, h2]; exact List.mem_cons_self ..), ← h2]
     simp only [List.getD_eq_getElem?_getD]
     rw [List.getElem?_set_self hx.2]
     rfl
    ·rw [if_neg (by rw [List.map_cons, List.mem_cons]; exact fun h => h.elim (fun e => h2 e.symm) h1)]
     simp only [List.getD_eq_getElem?_getD]
     rw [List.getElem?_set_ne h2]
theorem next_len (q : Nat) {l : List (Nat × Bool)} (h : q ≤ cf l) : (nextL q l).length = l.length + 1 := by
 unfold nextL
 rw [List.length_append, (takeN_spec q l h).size]
 rfl
theorem dep_sums {q : Nat} (hq : 2 ≤ q) : ∀ (n : Nat) (l : List (Nat × Bool)) (d : List Nat), cf l ≤ n → 0 < cf l → cf l % (q - 1) = 1 % (q - 1) → l.length + (treeN q n l).length ≤ d.length → (∀ i, d.getD i 0 = 0) →
  sf (fun i w => w * (depR l.length (treeN q n l) d).getD i 0) l = sumsT (treeN q n l) ∧
  (∀ M, (treeN q n l).length ≤ M → sf (fun i _ => q ^ (M - (depR l.length (treeN q n l) d).getD i 0)) l = q ^ M) ∧
  ∀ i, (depR l.length (treeN q n l) d).getD i 0 ≤ (treeN q n l).length
 | 0, l, d, h, h0, _, _, _ => by omega
 | n + 1, l, d, h, h0, hm, hd, hz => by
   by_cases h1 : cf l ≤ 1
   ·rw [treeN_one h1]
    simp only [depR, hz, Nat.mul_zero, Nat.sub_zero, sumsT, List.map_nil, List.sum_nil, List.length_nil]
    have key : ∀ (c : Nat), sf (fun _ _ => c) l = c * cf l := fun c => by
     have : ∀ (l : List (Nat × Bool)) (o : Nat), sfG (fun _ _ => c) o l = c * cf l := fun l => by
      induction l with
      | nil => intro o; simp [sfG, cf]
      | cons x r ih =>
        intro o
        obtain ⟨w, f⟩ := x
        simp only [sfG, ih]
        cases f <;> simp [cf, List.filter_cons, Nat.mul_add]
        omega
     exact this l 0
    refine ⟨by rw [key]; omega, fun M _ => by rw [key, show cf l = 1 by omega, Nat.mul_one], fun _ => Nat.le_refl _⟩
   ·have hr := mod_room hq hm (by omega)
    have hT := takeN_spec q l hr
    have hc := cf_next hq hr
    have hl := next_len q hr
    rw [treeN_succ h1] at hd ⊢
    rw [List.length_cons] at hd
    obtain ⟨i1, i2, i3⟩ := dep_sums hq n (nextL q l) d (by omega) (by have := cf_snoc (takeN q l).2 (((takeN q l).1.map (·.2)).sum); unfold nextL; omega) (mod_next hq hr hm) (by omega) hz
    rw [hl] at i1 i2 i3
    generalize hms : treeN q n (nextL q l) = ms at i1 i2 i3 hd ⊢
    have hdl : (depR (l.length + 1) ms d).length = d.length := depR_len _ _ _
    generalize hd1 : depR (l.length + 1) ms d = d1 at i1 i2 i3 hdl ⊢
    have hns : ∀ x ∈ (takeN q l).1, x.1 ≠ l.length ∧ x.1 < d1.length := fun x hx => by
     have := (List.getElem?_eq_some_iff.1 (hT.at_ x hx).1).1
     omega
    have hat := depStep_at l.length (takeN q l).1 d1 hns
    have hD : depR l.length ((takeN q l).1 :: ms) d = depStep l.length (takeN q l).1 d1 := by rw [depR, hd1]
    rw [hD]
    have hin : ∀ x ∈ (takeN q l).1, (depStep l.length (takeN q l).1 d1).getD x.1 0 = d1.getD l.length 0 + 1 := fun x hx => by
     rw [hat, if_pos (List.mem_map_of_mem hx)]
    have hout : ∀ i w, (takeN q l).2[i]? = some (w, true) → (depStep l.length (takeN q l).1 d1).getD i 0 = d1.getD i 0 := fun i w hi => by
     rw [hat, if_neg]
     intro hm
     obtain ⟨x, hx, e⟩ := List.mem_map.1 hm
     exact (hT.old i w hi).2 x hx e
    have hsz : (takeN q l).2.length = l.length := hT.size
    refine ⟨?_, ?_, ?_⟩
    ·rw [hT.sum, sf_congr (l := (takeN q l).2) (g' := fun i w => w * d1.getD i 0) fun i w hi => by rw [hout i w hi]]
     have e1 : ((takeN q l).1.map fun x => x.2 * (depStep l.length (takeN q l).1 d1).getD x.1 0).sum = ((takeN q l).1.map (·.2)).sum * (d1.getD l.length 0 + 1) := by
      rw [List.map_congr_left (g := fun x => x.2 * (d1.getD l.length 0 + 1)) fun x hx => by rw [hin x hx]]
      generalize (takeN q l).1 = ns
      induction ns with
      | nil => simp
      | cons x ns ih => simp only [List.map_cons, List.sum_cons, ih, Nat.add_mul]
     rw [e1]
     unfold nextL at i1
     rw [sf_snoc, hsz] at i1
     unfold sumsT at i1 ⊢
     rw [List.map_cons, List.sum_cons, ← i1, Nat.mul_add, Nat.mul_one]
     omega
    ·intro M hM
     rw [List.length_cons] at hM
     have i2M := i2 M (by omega)
     have h3 := i3 l.length
     rw [hT.sum, sf_congr (l := (takeN q l).2) (g' := fun i w => q ^ (M - d1.getD i 0)) fun i w hi => by rw [hout i w hi]]
     have e1 : ((takeN q l).1.map fun x => q ^ (M - (depStep l.length (takeN q l).1 d1).getD x.1 0)).sum = q ^ (M - d1.getD l.length 0) := by
      rw [List.map_congr_left (g := fun _ => q ^ (M - (d1.getD l.length 0 + 1))) fun x hx => by rw [hin x hx]]
      rw [List.map_const', List.sum_replicate_nat, hT.len, ← Nat.pow_succ']
      congr 1
      omega
     rw [e1]
     unfold nextL at i2M
     rw [sf_snoc, hsz] at i2M
     omega
    ·intro i
     rw [hat, List.length_cons]
     split
     ·have := i3 l.length; omega
     ·have := i3 i; omega
end Go.Proofs.Gv
