/- Ordered codes, plainly: the depths of the tree fit and cost the least; turned lists; weights that ascend or descend. -/
import Derived.Test.YtlbgkhjelbadmaaAlp
import Derived.Test.YtlbgkhjelbadmaaHufM
set_option linter.unusedSimpArgs false
set_option linter.unusedVariables false
namespace Go.Proofs.Gv

theorem asc_append : ∀ (a b : List (Nat × Nat)), asc a → asc b → (∀ x ∈ a, ∀ y ∈ b, (x.2 + 1) * 2 ^ y.1 ≤ y.2 * 2 ^ x.1) → asc (a ++ b)
  | [], b, _, hb, _ => hb
  | x :: a, b, ha, hb, h => by
    rw [List.cons_append]
    refine asc_cons (asc_bound _ ha x (List.mem_cons_self ..)) (asc_append a b (asc_tail ha) hb fun y hy z hz => h y (List.mem_cons_of_mem _ hy) z hz) fun y hy => ?_
    rcases List.mem_append.1 hy with hy | hy
    · exact asc_far a x ha y hy
    · exact h x (List.mem_cons_self ..) y hy
theorem asc_left : ∀ p : List (Nat × Nat), asc p → asc (p.map fun x => (x.1 + 1, x.2))
  | p, h => asc_map _ (fun _ => True) (fun x _ hx => by show x.2 < 2 ^ (x.1 + 1); rw [Nat.pow_succ]; omega) (fun x y _ _ hxy => by
      show (x.2 + 1) * 2 ^ (y.1 + 1) ≤ y.2 * 2 ^ (x.1 + 1)
      rw [Nat.pow_succ, Nat.pow_succ, ← Nat.mul_assoc, ← Nat.mul_assoc]
      exact Nat.mul_le_mul_right _ hxy) p (fun _ _ => trivial) h
theorem asc_right : ∀ p : List (Nat × Nat), asc p → asc (p.map fun x => (x.1 + 1, x.2 + 2 ^ x.1))
  | p, h => asc_map _ (fun _ => True) (fun x _ hx => by show x.2 + 2 ^ x.1 < 2 ^ (x.1 + 1); rw [Nat.pow_succ]; omega) (fun x y _ _ hxy => by
      show (x.2 + 2 ^ x.1 + 1) * 2 ^ (y.1 + 1) ≤ (y.2 + 2 ^ y.1) * 2 ^ (x.1 + 1)
      rw [Nat.pow_succ, Nat.pow_succ, ← Nat.mul_assoc, ← Nat.mul_assoc]
      refine Nat.mul_le_mul_right _ ?_
      rw [show x.2 + 2 ^ x.1 + 1 = x.2 + 1 + 2 ^ x.1 by omega, Nat.add_mul (x.2 + 1), Nat.add_mul y.2, Nat.mul_comm (2 ^ x.1) (2 ^ y.1)]
      omega) p (fun _ _ => trivial) h
theorem csP_succ : ∀ (W l : List Nat), W.length = l.length → csP (W.zip (l.map (· + 1))) = W.sum + csP (W.zip l)
  | [], l, _ => by simp [csP]
  | w :: W, [], h => by cases h
  | w :: W, n :: l, h => by
    simp only [List.map_cons, List.zip_cons_cons, csP_cons, List.sum_cons, csP_succ W l (by simpa using h), Nat.mul_add, Nat.mul_one]
    omega
/-- The depths of the tree: as many as weights, at the least cost, and there are words for them. -/
theorem alD_spec : ∀ (f : Nat) (W : List Nat), W.length ≤ f → 1 ≤ W.length → (alD f W).length = W.length ∧ csP (W.zip (alD f W)) = alc W ∧ (∃ vs, vs.length = W.length ∧ asc ((alD f W).zip vs)) ∧ (2 ≤ W.length → ∀ n ∈ alD f W, 1 ≤ n) ∧ ∀ n ∈ alD f W, n + 1 ≤ W.length
  | 0, W, h, h1 => by omega
  | f + 1, W, h, h1 => by
    unfold alD
    by_cases hl : W.length ≤ 1
    · rw [if_pos hl]
      obtain ⟨w, rfl⟩ := List.length_eq_one_iff.1 (show W.length = 1 by omega)
      exact ⟨rfl, by rw [alc_one hl]; simp [csP], ⟨[0], rfl, by show 0 < 2 ^ 0; decide⟩, fun h => by simp at h, fun n hn => by rw [List.mem_singleton.1 hn]; simp⟩
    · rw [if_neg hl]
      have hk := (minK_spec (spl W) (W.length - 2)).1
      rw [← alK_eq h hl] at hk
      generalize hkk : alK f W = k at hk
      have lt : (W.take (k + 1)).length = k + 1 := by rw [List.length_take]; omega
      have ld : (W.drop (k + 1)).length = W.length - (k + 1) := List.length_drop
      obtain ⟨a1, a2, ⟨va, a3, a4⟩, a5, a6⟩ := alD_spec f (W.take (k + 1)) (by omega) (by omega)
      obtain ⟨b1, b2, ⟨vb, b3, b4⟩, b5, b6⟩ := alD_spec f (W.drop (k + 1)) (by omega) (by omega)
      have eW : W = W.take (k + 1) ++ W.drop (k + 1) := (List.take_append_drop _ _).symm
      refine ⟨by rw [List.length_append, List.length_map, List.length_map, a1, b1]; omega, ?_, ?_, ?_, ?_⟩
      · have hWs : W.sum = (W.take (k + 1)).sum + (W.drop (k + 1)).sum := by conv => lhs; rw [eW, List.sum_append_nat]
        have hz : ∀ X Y : List Nat, X.length = (W.take (k + 1)).length → csP (W.zip (X ++ Y)) = csP ((W.take (k + 1)).zip X) + csP ((W.drop (k + 1)).zip Y) := fun X Y hX => by
          conv => lhs; rw [eW, List.zip_append hX.symm]
          exact csP_append _ _
        rw [hz _ _ (by rw [List.length_map, a1]), csP_succ _ _ a1.symm, csP_succ _ _ b1.symm, a2, b2, alc_more hl, (minK_spec (spl W) (W.length - 2)).2.1, ← alK_eq h hl, hkk]
        unfold spl
        omega
      · refine ⟨va ++ List.zipWith (fun n v => v + 2 ^ n) (alD f (W.drop (k + 1))) vb, by rw [List.length_append, List.length_zipWith, a3, b1, b3]; omega, ?_⟩
        rw [List.zip_append (by rw [List.length_map, a1, a3])]
        have e1 : ∀ (l v : List Nat), (l.map (· + 1)).zip v = (l.zip v).map fun x => (x.1 + 1, x.2) := fun l => by
          induction l with
          | nil => intro v; simp
          | cons n l ih => intro v; cases v with
            | nil => simp
            | cons x v => simp [ih]
        have e2 : ∀ (l v : List Nat), (l.map (· + 1)).zip (List.zipWith (fun n v => v + 2 ^ n) l v) = (l.zip v).map fun x => (x.1 + 1, x.2 + 2 ^ x.1) := fun l => by
          induction l with
          | nil => intro v; simp
          | cons n l ih => intro v; cases v with
            | nil => simp
            | cons x v => simp [ih]
        rw [e1, e2]
        refine asc_append _ _ (asc_left _ a4) (asc_right _ b4) fun x hx y hy => ?_
        obtain ⟨u, hu, rfl⟩ := List.mem_map.1 hx
        obtain ⟨v, hv, rfl⟩ := List.mem_map.1 hy
        have hub := asc_bound _ a4 u hu
        show (u.2 + 1) * 2 ^ (v.1 + 1) ≤ (v.2 + 2 ^ v.1) * 2 ^ (u.1 + 1)
        have h2 : (u.2 + 1) * 2 ^ (v.1 + 1) ≤ 2 ^ u.1 * 2 ^ (v.1 + 1) := Nat.mul_le_mul_right _ hub
        have h3 : 2 ^ v.1 * 2 ^ (u.1 + 1) ≤ (v.2 + 2 ^ v.1) * 2 ^ (u.1 + 1) := Nat.mul_le_mul_right _ (by omega)
        have h4 : 2 ^ u.1 * 2 ^ (v.1 + 1) = 2 ^ v.1 * 2 ^ (u.1 + 1) := by rw [Nat.pow_succ, Nat.pow_succ, ← Nat.mul_assoc, ← Nat.mul_assoc, Nat.mul_comm (2 ^ u.1)]
        omega
      · intro _ n hn
        rcases List.mem_append.1 hn with hn | hn <;> obtain ⟨m, -, rfl⟩ := List.mem_map.1 hn <;> omega
      · intro n hn
        rcases List.mem_append.1 hn with hn | hn
        · obtain ⟨m, hm, rfl⟩ := List.mem_map.1 hn
          have := a6 m hm; omega
        · obtain ⟨m, hm, rfl⟩ := List.mem_map.1 hn
          have := b6 m hm; omega
/-- Words that ascend fit. -/
theorem asc_room (L : Nat) : ∀ (r : List (Nat × Nat)) (x : Nat × Nat), asc (x :: r) → (∀ y ∈ x :: r, y.1 ≤ L) → x.2 * 2 ^ (L - x.1) + ((x :: r).map fun y => 2 ^ (L - y.1)).sum ≤ 2 ^ L
  | [], x, ha, h => by
    have hx := h x (List.mem_cons_self ..)
    have hb : x.2 + 1 ≤ 2 ^ x.1 := ha
    have : (x.2 + 1) * 2 ^ (L - x.1) ≤ 2 ^ x.1 * 2 ^ (L - x.1) := Nat.mul_le_mul_right _ hb
    rw [← Nat.pow_add, show x.1 + (L - x.1) = L by omega, Nat.add_mul, Nat.one_mul] at this
    simp
    exact this
  | y :: r, x, ha, h => by
    obtain ⟨-, h2, h3⟩ := ha
    have hx := h x (List.mem_cons_self ..)
    have hy := h y (by simp)
    have ih := asc_room L r y h3 fun z hz => h z (List.mem_cons_of_mem _ hz)
    rw [List.map_cons, List.sum_cons]
    have e : (x.2 + 1) * 2 ^ (L - x.1) ≤ y.2 * 2 ^ (L - y.1) := by
      have e1 : (x.2 + 1) * 2 ^ (L - x.1) * (2 ^ x.1 * 2 ^ y.1) = (x.2 + 1) * 2 ^ y.1 * 2 ^ L := by
        rw [show 2 ^ L = 2 ^ (L - x.1) * 2 ^ x.1 by rw [← Nat.pow_add]; congr 1; omega]; ac_rfl
      have e2 : y.2 * 2 ^ (L - y.1) * (2 ^ x.1 * 2 ^ y.1) = y.2 * 2 ^ x.1 * 2 ^ L := by
        rw [show 2 ^ L = 2 ^ (L - y.1) * 2 ^ y.1 by rw [← Nat.pow_add]; congr 1; omega]; ac_rfl
      have : (x.2 + 1) * 2 ^ (L - x.1) * (2 ^ x.1 * 2 ^ y.1) ≤ y.2 * 2 ^ (L - y.1) * (2 ^ x.1 * 2 ^ y.1) := by
        rw [e1, e2]; exact Nat.mul_le_mul_right _ h2
      exact Nat.le_of_mul_le_mul_right this (Nat.mul_pos (p2 _) (p2 _))
    rw [Nat.add_mul, Nat.one_mul] at e
    omega
theorem map_zip_fst : ∀ (l v : List Nat), v.length = l.length → (l.zip v).map (·.1) = l
  | [], _, _ => by simp
  | n :: l, [], h => by cases h
  | n :: l, x :: v, h => by simp [map_zip_fst l v (by simpa using h)]
theorem map_zip_snd : ∀ (W l : List Nat), l.length = W.length → (W.zip l).map (·.2) = l
  | [], l, h => by simp at h; simp [h]
  | n :: W, [], h => by cases h
  | n :: W, x :: l, h => by simp [map_zip_snd W l (by simpa using h)]
theorem kr_zip (q L : Nat) : ∀ (W l : List Nat), l.length = W.length → kr q L (W.zip l) = (l.map fun n => q ^ (L - n)).sum
  | [], l, h => by simp at h; simp [h, kr]
  | n :: W, [], h => by cases h
  | n :: W, x :: l, h => by rw [List.zip_cons_cons, kr_cons, kr_zip q L W l (by simpa using h), List.map_cons, List.sum_cons]
theorem mem_le_sum {l : List Nat} {n : Nat} (h : n ∈ l) : n ≤ l.sum := le_sum h
theorem asc_fit {l vs W : List Nat} (h : vs.length = l.length) (hW : l.length = W.length) (ha : asc (l.zip vs)) : Fit 2 (W.zip l) := by
  refine ⟨l.sum, fun x hx => ?_, ?_⟩
  · have : x.2 ∈ l := by rw [← map_zip_snd W l hW]; exact List.mem_map_of_mem hx
    exact mem_le_sum this
  · rw [kr_zip _ _ _ _ hW]
    cases l with
    | nil => simp
    | cons n l =>
      cases vs with
      | nil => cases h
      | cons v vs =>
        have := asc_room (n :: l).sum (l.zip vs) (n, v) ha fun y hy => by
          have : y.1 ∈ (((n :: l).zip (v :: vs)).map (·.1)) := List.mem_map_of_mem hy
          rw [map_zip_fst _ _ h] at this
          exact mem_le_sum this
        have e : (((n, v) :: l.zip vs).map fun y => 2 ^ ((n :: l).sum - y.1)) = (n :: l).map fun m => 2 ^ ((n :: l).sum - m) := by
          have : ((n, v) :: l.zip vs).map (·.1) = n :: l := map_zip_fst (n :: l) (v :: vs) h
          generalize (n :: l).sum = S
          rw [← this, List.map_map]
          rfl
        rw [e] at this
        omega
/-- Words turned around. -/
def mir (x : Nat × Nat) : Nat × Nat := (x.1, 2 ^ x.1 - 1 - x.2)
theorem mir_step {x y : Nat × Nat} (hx : x.2 < 2 ^ x.1) (hy : y.2 < 2 ^ y.1) (h : (x.2 + 1) * 2 ^ y.1 ≤ y.2 * 2 ^ x.1) : ((mir y).2 + 1) * 2 ^ (mir x).1 ≤ (mir x).2 * 2 ^ (mir y).1 := by
  unfold mir
  obtain ⟨a, ha⟩ := Nat.exists_eq_add_of_lt hx
  obtain ⟨b, hb⟩ := Nat.exists_eq_add_of_lt hy
  simp only
  have e1 : 2 ^ x.1 - 1 - x.2 = a := by omega
  have e2 : 2 ^ y.1 - 1 - y.2 = b := by omega
  rw [e1, e2]
  have e3 : (x.2 + 1) * 2 ^ y.1 + a * 2 ^ y.1 = 2 ^ x.1 * 2 ^ y.1 := by rw [← Nat.add_mul]; congr 1; omega
  have e4 : y.2 * 2 ^ x.1 + (b + 1) * 2 ^ x.1 = 2 ^ x.1 * 2 ^ y.1 := by rw [← Nat.add_mul, Nat.mul_comm (2 ^ x.1)]; congr 1; omega
  omega
theorem asc_rev : ∀ p : List (Nat × Nat), asc p → asc (p.reverse.map mir)
  | [], _ => trivial
  | x :: r, h => by
    rw [List.reverse_cons, List.map_append]
    have hb := asc_bound _ h
    refine asc_append _ _ (asc_rev r (asc_tail h)) ?_ fun y hy z hz => ?_
    · show 2 ^ x.1 - 1 - x.2 < 2 ^ x.1
      have := hb x (List.mem_cons_self ..)
      omega
    · obtain ⟨u, hu, rfl⟩ := List.mem_map.1 hy
      rw [List.map_cons, List.map_nil, List.mem_singleton] at hz
      subst hz
      have hu' := List.mem_reverse.1 hu
      exact mir_step (hb x (List.mem_cons_self ..)) (hb u (List.mem_cons_of_mem _ hu')) (asc_far r x h u hu')
theorem zip_rev : ∀ (W l : List Nat), W.length = l.length → W.reverse.zip l.reverse = (W.zip l).reverse
  | [], l, _ => by simp
  | w :: W, [], h => by cases h
  | w :: W, n :: l, h => by
    have hl : W.length = l.length := by simpa using h
    rw [List.reverse_cons, List.reverse_cons, List.zip_append (by simpa using hl), zip_rev W l hl, List.zip_cons_cons, List.zip_cons_cons, List.zip_nil_left, List.reverse_cons]
theorem csP_rev {W l : List Nat} (h : W.length = l.length) : csP (W.reverse.zip l.reverse) = csP (W.zip l) := by
  rw [zip_rev W l h]
  exact csP_perm (List.reverse_perm _)
theorem rev_words {l vs : List Nat} (h : vs.length = l.length) (ha : asc (l.zip vs)) : ∃ us, us.length = l.length ∧ asc (l.reverse.zip us) := by
  have := asc_rev _ ha
  refine ⟨((l.zip vs).reverse.map mir).map (·.2), by simp [h], ?_⟩
  have e : l.reverse = ((l.zip vs).reverse.map mir).map (·.1) := by
    rw [List.map_map]
    show _ = (l.zip vs).reverse.map fun x => x.1
    rw [List.map_reverse, map_zip_fst l vs h]
  have e2 : ∀ p : List (Nat × Nat), (p.map (·.1)).zip (p.map (·.2)) = p := fun p => by
    induction p with
    | nil => rfl
    | cons x p ih => simp [ih]
  rw [e, e2]
  exact this
theorem alc_any {W l vs : List Nat} (h : vs.length = l.length) (hW : l.length = W.length) (ha : asc (l.zip vs)) : alc W ≤ csP (W.zip l) := by
  have := alc_least _ W (l.zip vs) (Nat.le_refl _) (by rw [List.length_zip]; omega) ha
  rwa [map_zip_fst l vs h] at this
/-- Turned weights cost the same. -/
theorem alc_rev {W : List Nat} (h1 : 1 ≤ W.length) : alc W.reverse = alc W := by
  have key : ∀ W : List Nat, 1 ≤ W.length → alc W.reverse ≤ alc W := fun W h1 => by
    obtain ⟨a1, a2, ⟨vs, a3, a4⟩, -⟩ := alD_spec W.length W (Nat.le_refl _) h1
    obtain ⟨us, b1, b2⟩ := rev_words (a3.trans a1.symm) a4
    rw [← a2, ← csP_rev a1.symm]
    exact alc_any (by rw [b1, List.length_reverse]) (by rw [List.length_reverse, List.length_reverse, a1]) b2
  have h2 := key W.reverse (by rw [List.length_reverse]; exact h1)
  rw [List.reverse_reverse] at h2
  exact Nat.le_antisymm (key W h1) h2
/-- Lengths that do not become less, and fit: there are words in that order. -/
theorem fit_words (L : Nat) : ∀ (l : List Nat) (s : Nat), l.Pairwise (· ≤ ·) → (∀ n ∈ l, n ≤ L) → s + (l.map fun n => 2 ^ (L - n)).sum ≤ 2 ^ L → (∀ n ∈ l.head?, 2 ^ (L - n) ∣ s) → ∃ vs, vs.length = l.length ∧ asc (l.zip vs) ∧ ∀ n ∈ l.head?, ∀ v ∈ vs.head?, v * 2 ^ (L - n) = s
  | [], s, _, _, _, _ => ⟨[], rfl, trivial, by simp⟩
  | n :: l, s, hp, hL, hs, hd => by
    rw [List.pairwise_cons] at hp
    have hn := hL n (List.mem_cons_self ..)
    obtain ⟨v, hv⟩ := hd n (by simp)
    rw [List.map_cons, List.sum_cons] at hs
    obtain ⟨vs, h1, h2, h3⟩ := fit_words L l (s + 2 ^ (L - n)) hp.2 (fun m hm => hL m (List.mem_cons_of_mem _ hm)) (by omega) (by
      intro m hm
      have hml : m ∈ l := List.mem_of_mem_head? hm
      have hnm := hp.1 m hml
      have hm2 := hL m (List.mem_cons_of_mem _ hml)
      rw [hv]
      have e : 2 ^ (L - n) = 2 ^ (L - m) * 2 ^ (m - n) := by rw [← Nat.pow_add]; congr 1; omega
      refine ⟨2 ^ (m - n) * v + 2 ^ (m - n), ?_⟩
      rw [e, Nat.mul_add, Nat.mul_assoc])
    have hvb : v < 2 ^ n := by
      have : 2 ^ (L - n) * v + 2 ^ (L - n) ≤ 2 ^ L := by omega
      have e : 2 ^ L = 2 ^ (L - n) * 2 ^ n := by rw [← Nat.pow_add]; congr 1; omega
      rw [e, ← Nat.mul_succ] at this
      exact Nat.le_of_mul_le_mul_left this (p2 _)
    refine ⟨v :: vs, by simp [h1], ?_, by simp; rw [hv, Nat.mul_comm]⟩
    rw [List.zip_cons_cons]
    cases l with
    | nil => exact hvb
    | cons m l =>
      cases vs with
      | nil => cases h1
      | cons u vs =>
        have hu := h3 m (by simp) u (by simp)
        have hm2 := hL m (by simp)
        refine ⟨hvb, ?_, h2⟩
        show (v + 1) * 2 ^ m ≤ u * 2 ^ n
        have e1 : (v + 1) * 2 ^ m * 2 ^ (L - n) * 2 ^ (L - m) = (s + 2 ^ (L - n)) * 2 ^ L := by
          rw [hv, show 2 ^ (L - n) * v + 2 ^ (L - n) = (v + 1) * 2 ^ (L - n) by rw [Nat.add_mul, Nat.one_mul, Nat.mul_comm], show 2 ^ L = 2 ^ m * 2 ^ (L - m) by rw [← Nat.pow_add]; congr 1; omega]
          ac_rfl
        have e2 : u * 2 ^ n * 2 ^ (L - n) * 2 ^ (L - m) = (s + 2 ^ (L - n)) * 2 ^ L := by
          rw [← hu, show 2 ^ L = 2 ^ n * 2 ^ (L - n) by rw [← Nat.pow_add]; congr 1; omega]
          ac_rfl
        have := e1.trans e2.symm
        have := Nat.eq_of_mul_eq_mul_right (p2 _) this
        have := Nat.eq_of_mul_eq_mul_right (p2 _) this
        omega
/-- The greatest lengths first. -/
def insD (n : Nat) : List Nat → List Nat
  | [] => [n]
  | m :: l => if m < n then n :: m :: l else m :: insD n l
def srtD : List Nat → List Nat
  | [] => []
  | n :: l => insD n (srtD l)
theorem insD_perm (n : Nat) : ∀ l : List Nat, (insD n l).Perm (n :: l)
  | [] => .refl _
  | m :: l => by
    unfold insD
    split
    · exact .refl _
    · exact ((insD_perm n l).cons m).trans (.swap _ _ _)
theorem srtD_perm : ∀ l : List Nat, (srtD l).Perm l
  | [] => .refl _
  | n :: l => (insD_perm n _).trans ((srtD_perm l).cons n)
theorem insD_down (n : Nat) : ∀ l : List Nat, l.Pairwise (· ≥ ·) → (insD n l).Pairwise (· ≥ ·)
  | [], _ => by simp [insD]
  | m :: l, h => by
    rw [List.pairwise_cons] at h
    unfold insD
    split
    · rename_i hlt
      refine List.Pairwise.cons (fun x hx => ?_) (List.Pairwise.cons h.1 h.2)
      rcases List.mem_cons.1 hx with rfl | hx
      · exact Nat.le_of_lt hlt
      · have := h.1 x hx; show x ≤ n; exact Nat.le_trans this (Nat.le_of_lt hlt)
    · rename_i hge
      refine List.Pairwise.cons (fun x hx => ?_) (insD_down n l h.2)
      rcases List.mem_cons.1 ((insD_perm n l).mem_iff.1 hx) with rfl | hx
      · show x ≤ m; omega
      · exact h.1 x hx
theorem srtD_down : ∀ l : List Nat, (srtD l).Pairwise (· ≥ ·)
  | [] => .nil
  | n :: l => insD_down n _ (srtD_down l)
theorem insD_cost : ∀ (s : List Nat) (w n : Nat) (W : List Nat), W.length = s.length → (w :: W).Pairwise (· ≤ ·) → csP ((w :: W).zip (insD n s)) ≤ w * n + csP (W.zip s)
  | [], w, n, W, hl, _ => by simp at hl; subst hl; simp [insD, csP]
  | m :: s, w, n, [], hl, _ => by cases hl
  | m :: s, w, n, v :: W, hl, h => by
    unfold insD
    split
    · rw [List.zip_cons_cons, csP_cons]; exact Nat.le_refl _
    · rename_i hge
      rw [List.pairwise_cons] at h
      have hwv := h.1 v (List.mem_cons_self ..)
      have ih := insD_cost s v n W (by simpa using hl) h.2
      rw [List.zip_cons_cons, csP_cons, List.zip_cons_cons, csP_cons]
      obtain ⟨d, hd⟩ := Nat.exists_eq_add_of_le hwv
      obtain ⟨e, he⟩ := Nat.exists_eq_add_of_le (show n ≤ m by omega)
      show w * m + csP ((v :: W).zip (insD n s)) ≤ w * n + (v * m + csP (W.zip s))
      have : w * m + v * n ≤ w * n + v * m := by
        rw [hd, he]
        simp only [Nat.mul_add, Nat.add_mul]
        omega
      omega
theorem srtD_cost : ∀ (l W : List Nat), W.length = l.length → W.Pairwise (· ≤ ·) → csP (W.zip (srtD l)) ≤ csP (W.zip l)
  | [], W, _, _ => by simp [srtD, csP]
  | n :: l, [], hl, _ => by cases hl
  | n :: l, w :: W, hl, h => by
    have h' := h
    rw [List.pairwise_cons] at h
    have ih := srtD_cost l W (by simpa using hl) h.2
    have := insD_cost (srtD l) w n W (by rw [(srtD_perm l).length_eq]; simpa using hl) h'
    rw [List.zip_cons_cons, csP_cons]
    show csP ((w :: W).zip (insD n (srtD l))) ≤ w * n + csP (W.zip l)
    omega
/-- Weights that ascend: no lengths that fit cost less than the ordered tree. -/
theorem alc_up {W l : List Nat} (hl : l.length = W.length) (hW : W.Pairwise (· ≤ ·)) (hf : Fit 2 (W.zip l)) : alc W ≤ csP (W.zip l) := by
  obtain ⟨L, h1, h2⟩ := hf
  rw [kr_zip _ _ _ _ hl] at h2
  have hmem : ∀ n ∈ l, n ≤ L := fun n hn => by
    rw [← map_zip_snd W l hl] at hn
    obtain ⟨x, hx, rfl⟩ := List.mem_map.1 hn
    exact h1 x hx
  have hls : (srtD l).length = l.length := (srtD_perm l).length_eq
  have hpw : (srtD l).reverse.Pairwise (· ≤ ·) := by
    rw [List.pairwise_reverse]
    exact srtD_down l
  obtain ⟨vs, a1, a2, -⟩ := fit_words L (srtD l).reverse 0 hpw (fun n hn => hmem n ((srtD_perm l).mem_iff.1 (List.mem_reverse.1 hn))) (by
    rw [Nat.zero_add]
    have : ((srtD l).reverse.map fun n => 2 ^ (L - n)).sum = (l.map fun n => 2 ^ (L - n)).sum := (((List.reverse_perm _).trans (srtD_perm l)).map _).sum_nat
    rw [this]; exact h2) (fun n _ => ⟨0, rfl⟩)
  obtain ⟨us, b1, b2⟩ := rev_words a1 a2
  rw [List.reverse_reverse] at b2
  rw [List.length_reverse] at b1
  exact Nat.le_trans (alc_any b1 (by rw [hls, hl]) b2) (srtD_cost l W hl.symm hW)
theorem alc_down {W l : List Nat} (h1 : 1 ≤ W.length) (hl : l.length = W.length) (hW : W.Pairwise (· ≥ ·)) (hf : Fit 2 (W.zip l)) : alc W ≤ csP (W.zip l) := by
  rw [← alc_rev h1, ← csP_rev hl.symm]
  refine alc_up (by rw [List.length_reverse, List.length_reverse, hl]) (by rw [List.pairwise_reverse]; exact hW) ?_
  obtain ⟨L, g1, g2⟩ := hf
  have e : (W.reverse.zip l.reverse).Perm (W.zip l) := by
    rw [zip_rev W l hl.symm]
    exact List.reverse_perm _
  exact ⟨L, fun x hx => g1 x (e.mem_iff.1 hx), by rw [kr_perm e]; exact g2⟩
end Go.Proofs.Gv
