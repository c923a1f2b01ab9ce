/- The code tree, plainly: greater weights have no greater depths; the lengths of weights. -/
import Derived.Test.YtglgiofjgfbfgaaHufT
set_option linter.unusedSimpArgs false
set_option linter.unusedVariables false
namespace Go.Proofs.Gv

theorem sum_le_sum {A B : List Nat} (hl : A.length = B.length) (h : ∀ a ∈ A, ∀ b ∈ B, a ≤ b) : A.sum ≤ B.sum := by
  induction A generalizing B with
  | nil => simp
  | cons a A ih =>
    cases B with
    | nil => cases hl
    | cons b B =>
      have h1 := h a (List.mem_cons_self ..) b (List.mem_cons_self ..)
      have h2 := ih (by simpa using hl) fun x hx y hy => h x (List.mem_cons_of_mem _ hx) y (List.mem_cons_of_mem _ hy)
      simp only [List.sum_cons]
      omega
theorem le_sum {A : List Nat} {a : Nat} (h : a ∈ A) : a ≤ A.sum := by
  induction A with
  | nil => cases h
  | cons x A ih =>
    rw [List.sum_cons]
    rcases List.mem_cons.1 h with rfl | h
    · omega
    · have := ih h; omega
def sumN (q : Nat) (l : List (Nat × Bool)) : Nat := ((takeN q l).1.map (·.2)).sum
/-- What is taken comes before what stays. -/
theorem taken_first : ∀ (q : Nat) (l : List (Nat × Bool)), q ≤ cf l → ∀ x ∈ (takeN q l).1, ∀ i v : Nat, (takeN q l).2[i]? = some (v, true) → x.2 < v ∨ (x.2 = v ∧ x.1 < i)
  | 0, l, _, x, hx, _, _, _ => by simp [takeN] at hx
  | q + 1, l, h, x, hx, i, v, hi => by
    obtain ⟨k, w, hl⟩ := cf_pos (l := l) (by omega)
    have hL := leastO_some hl
    have hc := cf_set hL.1
    have hT := takeN_spec (q + 1) l h
    have hold := hT.old i v hi
    rw [takeN_succ hl] at hx hi
    rcases List.mem_cons.1 hx with rfl | hx'
    · have := hL.2 i v hold.1
      have hne := hold.2 (k, w) (by rw [takeN_succ hl]; exact List.mem_cons_self ..)
      show w < v ∨ (w = v ∧ k < i)
      have hne' : k ≠ i := hne
      omega
    · exact taken_first q (l.set k (w, false)) (by omega) x hx' i v hi
theorem sumN_mono {q : Nat} (hq : 2 ≤ q) {l : List (Nat × Bool)} (h1 : q ≤ cf l) (h2 : q ≤ cf (nextL q l)) : sumN q l ≤ sumN q (nextL q l) := by
  have hT := takeN_spec q l h1
  have hT' := takeN_spec q (nextL q l) h2
  unfold sumN
  refine sum_le_sum (by rw [List.length_map, List.length_map, hT.len, hT'.len]) fun a ha b hb => ?_
  obtain ⟨x, hx, rfl⟩ := List.mem_map.1 ha
  obtain ⟨y, hy, rfl⟩ := List.mem_map.1 hb
  have hyl := (hT'.at_ y hy).1
  have : y.2 ∈ fw (nextL q l) := mem_fw.2 ⟨_, hyl⟩
  unfold nextL at this
  rw [fw_snoc] at this
  rcases List.mem_append.1 this with h | h
  · exact hT.le x hx y.2 h
  · rw [List.mem_singleton.1 h]
    exact le_sum ha
/-- Of two free nodes the greater one stands no deeper; and none stands much deeper than one that all later sums reach. -/
theorem dep_mono {q : Nat} (hq : 2 ≤ q) : ∀ (n : Nat) (l : List (Nat × Bool)) (d : List Nat), cf l ≤ n → 0 < cf l → cf l % (q - 1) = 1 % (q - 1) → l.length + (treeN q n l).length ≤ d.length → (∀ i, d.getD i 0 = 0) →
    (∀ i j v w : Nat, l[i]? = some (v, true) → l[j]? = some (w, true) → (w < v ∨ (w = v ∧ j < i)) → (depR l.length (treeN q n l) d).getD i 0 ≤ (depR l.length (treeN q n l) d).getD j 0) ∧
    (∀ i p v w : Nat, l[i]? = some (v, true) → l[p]? = some (w, true) → (1 < cf l → w ≤ sumN q l) → (depR l.length (treeN q n l) d).getD i 0 ≤ (depR l.length (treeN q n l) d).getD p 0 + 1)
  | 0, l, d, h, h0, _, _, _ => by omega
  | n + 1, l, d, h, h0, hm, hd, hz => by
    by_cases h1 : cf l ≤ 1
    · rw [treeN_one h1]
      simp only [depR, hz]
      exact ⟨fun _ _ _ _ _ _ _ => Nat.le_refl _, fun _ _ _ _ _ _ _ => Nat.zero_le _⟩
    · have hr := mod_room hq hm (by omega)
      have hT := takeN_spec q l hr
      have hF := taken_first q l hr
      have hc := cf_next hq hr
      have hl := next_len q hr
      have hm1 := mod_next hq hr hm
      have hc1 : 0 < cf (nextL q l) := by have := cf_snoc (takeN q l).2 (((takeN q l).1.map (·.2)).sum); unfold nextL; omega
      rw [treeN_succ h1] at hd ⊢
      rw [List.length_cons] at hd
      obtain ⟨i1, i2⟩ := dep_mono hq n (nextL q l) d (by omega) hc1 hm1 (by omega) hz
      rw [hl] at i1 i2
      generalize hms : treeN q n (nextL q l) = ms at i1 i2 hd ⊢
      have hdl : (depR (l.length + 1) ms d).length = d.length := depR_len _ _ _
      generalize hd1 : depR (l.length + 1) ms d = d1 at i1 i2 hdl ⊢
      have hns : ∀ x ∈ (takeN q l).1, x.1 ≠ l.length ∧ x.1 < d1.length := fun x hx => by
        have := (List.getElem?_eq_some_iff.1 (hT.at_ x hx).1).1
        omega
      have hat := depStep_at l.length (takeN q l).1 d1 hns
      have hD : depR l.length ((takeN q l).1 :: ms) d = depStep l.length (takeN q l).1 d1 := by rw [depR, hd1]
      rw [hD]
      have hsz : (takeN q l).2.length = l.length := hT.size
      -- a free node is taken, or stays free
      have part : ∀ i v : Nat, l[i]? = some (v, true) → ((i, v) ∈ (takeN q l).1 ∧ (depStep l.length (takeN q l).1 d1).getD i 0 = d1.getD l.length 0 + 1) ∨
          ((takeN q l).2[i]? = some (v, true) ∧ (nextL q l)[i]? = some (v, true) ∧ (depStep l.length (takeN q l).1 d1).getD i 0 = d1.getD i 0) := fun i v hi => by
        have hil := (List.getElem?_eq_some_iff.1 hi).1
        by_cases hin : i ∈ (takeN q l).1.map (·.1)
        · obtain ⟨x, hx, e⟩ := List.mem_map.1 hin
          have h2 := (hT.at_ x hx).1
          rw [e, hi] at h2
          have e2 : x = (i, v) := by
            obtain ⟨a, b⟩ := x
            simp only [Option.some.injEq, Prod.mk.injEq, and_true] at h2
            simp only at e
            rw [e, h2]
          exact .inl ⟨by rw [← e2]; exact hx, by rw [hat, if_pos hin]⟩
        · have h3 : (takeN q l).2[i]? = some (v, true) := by
            have hw := hT.wt i
            rw [hi] at hw
            cases h4 : (takeN q l).2[i]? with
            | none => rw [h4] at hw; cases hw
            | some y =>
              obtain ⟨u, f⟩ := y
              rw [h4] at hw
              simp at hw
              cases f with
              | true => rw [hw]
              | false =>
                exfalso
                -- counted twice: the sums over 'is it i'
                have hs := hT.sum fun k _ => if k = i then 1 else 0
                have e1 : ((takeN q l).1.map fun x => if x.1 = i then 1 else 0).sum = 0 := by
                  have : ∀ ns : List (Nat × Nat), i ∉ ns.map (·.1) → (ns.map fun x => if x.1 = i then 1 else 0).sum = 0 := fun ns => by
                    induction ns with
                    | nil => intro _; rfl
                    | cons x ns ih =>
                      intro hn
                      rw [List.map_cons, List.mem_cons, not_or] at hn
                      rw [List.map_cons, List.sum_cons, ih hn.2, if_neg (fun e => hn.1 e.symm)]
                  exact this _ hin
                have e2 : sf (fun k _ => if k = i then 1 else 0) (takeN q l).2 = 0 := by
                  rw [sf_congr (g' := fun _ _ => 0)]
                  · have : ∀ (l : List (Nat × Bool)) (o : Nat), sfG (fun _ _ => 0) o l = 0 := fun l => by
                      induction l with
                      | nil => intro o; rfl
                      | cons x r ih => intro o; simp [sfG, ih]
                    exact this _ 0
                  · intro k u' hk
                    rw [if_neg]
                    intro e
                    rw [e, h4] at hk
                    simp at hk
                have e3 := sf_set (fun k _ => if k = i then 1 else 0) hi
                rw [if_pos rfl] at e3
                omega
          refine .inr ⟨h3, ?_, by rw [hat, if_neg hin]⟩
          unfold nextL
          rw [List.getElem?_append_left (by omega)]
          exact h3
      have hnew : (nextL q l)[l.length]? = some (sumN q l, true) := by
        unfold nextL sumN
        rw [List.getElem?_append_right (by omega), hsz, Nat.sub_self]
        rfl
      have hgrow : 1 < cf (nextL q l) → sumN q l ≤ sumN q (nextL q l) := fun h2 => sumN_mono hq hr (mod_room hq hm1 h2)
      have b_new : ∀ i v : Nat, (nextL q l)[i]? = some (v, true) → d1.getD i 0 ≤ d1.getD l.length 0 + 1 := fun i v hi => i2 i l.length v _ hi hnew hgrow
      refine ⟨fun i j v w hi hj hlt => ?_, fun i p v w hi hp hw => ?_⟩
      · rcases part i v hi with ⟨a1, a2⟩ | ⟨a1, a2, a3⟩ <;> rcases part j w hj with ⟨b1, b2⟩ | ⟨b1, b2, b3⟩
        · rw [a2, b2]; exact Nat.le_refl _
        · have := hF (i, v) a1 j w b1
          simp only at this
          omega
        · rw [a3, b2]; exact b_new i v a2
        · rw [a3, b3]; exact i1 i j v w a2 b2 hlt
      · have hwl := hw (by omega)
        have hpl := (List.getElem?_eq_some_iff.1 hp).1
        rcases part i v hi with ⟨a1, a2⟩ | ⟨a1, a2, a3⟩ <;> rcases part p w hp with ⟨b1, b2⟩ | ⟨b1, b2, b3⟩
        · rw [a2, b2]; omega
        · have := i1 l.length p _ w hnew b2 (by omega)
          rw [a2, b3]; omega
        · have := b_new i v a2
          rw [a3, b2]; omega
        · rw [a3, b3]
          exact i2 i p v w a2 b2 fun h2 => Nat.le_trans hwl (hgrow h2)
/-- How many weights of nought are added. -/
def padT (q n : Nat) : Nat := (q - 1 - (n - 1) % (q - 1)) % (q - 1)
def startL (q : Nat) (W : List Nat) : List (Nat × Bool) := (W ++ List.replicate (padT q W.length) 0).map fun w => (w, true)
def mergesH (q : Nat) (W : List Nat) : List (List (Nat × Nat)) := treeN q (startL q W).length (startL q W)
/-- The depths of all nodes. -/
def depH (q : Nat) (W : List Nat) : List Nat := depR (startL q W).length (mergesH q W) (List.replicate ((startL q W).length + (mergesH q W).length) 0)
/-- The lengths. -/
def lenH (q : Nat) (W : List Nat) : List Nat := (depH q W).take W.length
theorem cf_all (X : List Nat) : cf (X.map fun w => (w, true)) = X.length := by
  unfold cf
  rw [List.filter_eq_self.2 (by intro x hx; obtain ⟨w, -, rfl⟩ := List.mem_map.1 hx; rfl), List.length_map]
theorem fw_all (X : List Nat) : fw (X.map fun w => (w, true)) = X := by
  unfold fw
  rw [List.filter_eq_self.2 (by intro x hx; obtain ⟨w, -, rfl⟩ := List.mem_map.1 hx; rfl), List.map_map]
  simp [Function.comp_def]
theorem padT_lt {q n : Nat} (hq : 2 ≤ q) : padT q n < q - 1 := Nat.mod_lt _ (by omega)
theorem padT_mod {q n : Nat} (hq : 2 ≤ q) (hn : 1 ≤ n) : (n + padT q n) % (q - 1) = 1 % (q - 1) := by
  unfold padT
  obtain ⟨r, hr⟩ : ∃ r, q - 1 = r + 1 := ⟨q - 2, by omega⟩
  rw [hr]
  obtain ⟨m, rfl⟩ : ∃ m, n = m + 1 := ⟨n - 1, by omega⟩
  rw [Nat.add_sub_cancel, Nat.add_mod, Nat.mod_mod, ← Nat.add_mod]
  have h1 := Nat.mod_lt m (show 0 < r + 1 by omega)
  have h2 := Nat.div_add_mod m (r + 1)
  have e : m + 1 + (r + 1 - m % (r + 1)) = 1 + (r + 1) * (m / (r + 1) + 1) := by rw [Nat.mul_add, Nat.mul_one]; omega
  rw [e, Nat.add_mul_mod_self_left]
theorem startL_len (q : Nat) (W : List Nat) : (startL q W).length = W.length + padT q W.length := by simp [startL]
theorem startL_cf (q : Nat) (W : List Nat) : cf (startL q W) = (startL q W).length := by unfold startL; rw [cf_all, List.length_map]
theorem startL_mod {q : Nat} (hq : 2 ≤ q) {W : List Nat} (h1 : 1 ≤ W.length) : cf (startL q W) % (q - 1) = 1 % (q - 1) := by
  rw [startL_cf, startL_len]; exact padT_mod hq h1
theorem startL_pos {q : Nat} {W : List Nat} (h1 : 1 ≤ W.length) : 0 < cf (startL q W) := by rw [startL_cf, startL_len]; omega
theorem depH_len (q : Nat) (W : List Nat) : (depH q W).length = (startL q W).length + (mergesH q W).length := by unfold depH; rw [depR_len, List.length_replicate]
theorem lenH_len (q : Nat) (W : List Nat) : (lenH q W).length = W.length := by
  unfold lenH
  rw [List.length_take, depH_len, startL_len]
  omega
theorem startL_at {q : Nat} {W : List Nat} {i w : Nat} (h : W[i]? = some w) : (startL q W)[i]? = some (w, true) := by
  unfold startL
  rw [List.getElem?_map, List.getElem?_append_left (List.getElem?_eq_some_iff.1 h).1, h]
  rfl
theorem lenH_at {q : Nat} {W : List Nat} {i : Nat} (h : i < W.length) : (lenH q W)[i]? = some ((depH q W).getD i 0) := by
  have hl := depH_len q W
  rw [startL_len] at hl
  unfold lenH
  rw [List.getElem?_take, if_pos h, List.getD_eq_getElem?_getD, List.getElem?_eq_getElem (show i < (depH q W).length by omega)]
  rfl
theorem rep_zero (n i : Nat) : (List.replicate n 0).getD i 0 = 0 := by
  rw [List.getD_eq_getElem?_getD, List.getElem?_replicate]
  split <;> rfl
theorem sfG_zip (F : Nat → Nat → Nat) (D : List Nat) : ∀ (X : List Nat) (o : Nat), o + X.length ≤ D.length → sfG (fun i w => F w (D.getD i 0)) o (X.map fun w => (w, true)) = ((X.zip (D.drop o)).map fun x => F x.1 x.2).sum
  | [], o, _ => by simp [sfG]
  | w :: X, o, h => by
    rw [List.length_cons] at h
    have ho : o < D.length := by omega
    rw [List.map_cons, sfG, sfG_zip F D X (o + 1) (by omega), List.drop_eq_getElem_cons ho, List.zip_cons_cons, List.map_cons, List.sum_cons, if_pos rfl, List.getD_eq_getElem?_getD, List.getElem?_eq_getElem ho]
    rfl
theorem zip_pads (W D : List Nat) (t : Nat) (h : W.length ≤ D.length) : (W ++ List.replicate t 0).zip D = W.zip (D.take W.length) ++ (List.replicate t 0).zip (D.drop W.length) := by
  conv => lhs; rw [← List.take_append_drop W.length D]
  rw [List.zip_append (by rw [List.length_take]; omega)]
/-- The lengths cost the sums of all merges, they fit, and none that fit cost less. -/
theorem lenH_spec {q : Nat} (hq : 2 ≤ q) {W : List Nat} (h1 : 1 ≤ W.length) :
    csP (W.zip (lenH q W)) = sumsT (mergesH q W) ∧ (∀ M, (mergesH q W).length ≤ M → kr q M (W.zip (lenH q W)) ≤ q ^ M ∧ (padT q W.length = 0 → kr q M (W.zip (lenH q W)) = q ^ M)) ∧ (∀ n ∈ lenH q W, n ≤ (mergesH q W).length) ∧
    (∀ p : List (Nat × Nat), (p.map (·.1)).Perm W → Fit q p → sumsT (mergesH q W) ≤ csP p) ∧
    (∀ i j v w m n : Nat, W[i]? = some v → W[j]? = some w → (lenH q W)[i]? = some m → (lenH q W)[j]? = some n → w < v → m ≤ n) ∧
    (mergesH q W).length * (q - 1) + 1 = (startL q W).length := by
  have hc := startL_cf q W
  have hp := startL_pos (q := q) h1
  have hm := startL_mod hq h1
  have hd0 : (startL q W).length + (treeN q (startL q W).length (startL q W)).length ≤ (List.replicate ((startL q W).length + (mergesH q W).length) 0).length := by rw [List.length_replicate]; exact Nat.le_refl _
  obtain ⟨a1, a2, a3⟩ := dep_sums hq (startL q W).length (startL q W) _ (by omega) hp hm hd0 (rep_zero _)
  obtain ⟨b1, -⟩ := dep_mono hq (startL q W).length (startL q W) _ (by omega) hp hm hd0 (rep_zero _)
  have hred := treeN_red hq (startL q W).length (startL q W) (by omega) hp hm
  have hlen := treeN_len hq (startL q W).length (startL q W) (by omega) hp hm
  change sf (fun i w => w * (depH q W).getD i 0) (startL q W) = sumsT (mergesH q W) at a1
  change ∀ M, (mergesH q W).length ≤ M → sf (fun i _ => q ^ (M - (depH q W).getD i 0)) (startL q W) = q ^ M at a2
  change ∀ i, (depH q W).getD i 0 ≤ (mergesH q W).length at a3
  have hDl := depH_len q W
  have hSl := startL_len q W
  have e1 : ∀ F : Nat → Nat → Nat, sf (fun i w => F w ((depH q W).getD i 0)) (startL q W) = ((W.zip (lenH q W)).map fun x => F x.1 x.2).sum + (((List.replicate (padT q W.length) 0).zip ((depH q W).drop W.length)).map fun x => F x.1 x.2).sum := fun F => by
    unfold sf startL
    rw [sfG_zip F (depH q W) _ 0 (by rw [List.length_append, List.length_replicate]; omega), List.drop_zero, zip_pads _ _ _ (by omega), List.map_append, List.sum_append_nat]
    rfl
  refine ⟨?_, fun M hM => ?_, fun n hn => ?_, fun p hpp hf => ?_, fun i j v w m n hi hj hmi hnj hlt => ?_, by rw [hc] at hlen; exact hlen⟩
  · rw [← a1, e1 fun w d => w * d]
    have : (((List.replicate (padT q W.length) 0).zip ((depH q W).drop W.length)).map fun x => x.1 * x.2).sum = 0 := by
      have : ∀ (t : Nat) (D : List Nat), (((List.replicate t 0).zip D).map fun x => x.1 * x.2).sum = 0 := fun t => by
        induction t with
        | zero => intro D; simp
        | succ t ih =>
          intro D
          cases D with
          | nil => simp
          | cons x D => rw [List.replicate_succ, List.zip_cons_cons, List.map_cons, List.sum_cons, ih, Nat.zero_mul]
      exact this _ _
    rw [this]
    rfl
  · have := a2 M hM
    rw [e1 fun _ d => q ^ (M - d)] at this
    refine ⟨by unfold kr; omega, fun hpad => ?_⟩
    rw [hpad] at this
    simp only [List.replicate_zero, List.zip_nil_left, List.map_nil, List.sum_nil, Nat.add_zero] at this
    exact this
  · obtain ⟨i, hi⟩ := List.getElem?_of_mem hn
    have hil := (List.getElem?_eq_some_iff.1 hi).1
    rw [lenH_len] at hil
    rw [lenH_at hil] at hi
    have := a3 i
    simp only [Option.some.injEq] at hi
    omega
  · have hfw : fw (startL q W) = W ++ List.replicate (padT q W.length) 0 := by unfold startL; rw [fw_all]
    rw [hfw] at hred
    exact hred.best hq (padT_lt hq) hpp hf
  · have hil := (List.getElem?_eq_some_iff.1 hi).1
    have hjl := (List.getElem?_eq_some_iff.1 hj).1
    rw [lenH_at hil] at hmi
    rw [lenH_at hjl] at hnj
    simp only [Option.some.injEq] at hmi hnj
    have := b1 i j v w (startL_at hi) (startL_at hj) (.inl hlt)
    change (depH q W).getD i 0 ≤ (depH q W).getD j 0 at this
    omega
end Go.Proofs.Gv
