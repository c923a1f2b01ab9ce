import Derived.Test.YtfhncfphphieiaaGreatHufT
import Derived.Maps.RangeWalk
import Derived.Maps.OwnSet
import Derived.Maps.OwnOps
set_option linter.unusedSimpArgs false
set_option linter.unusedVariables false
namespace Go.Proofs.Gv
theorem sum_le_sum {A B : List Nat} (hl : A.length = B.length) (h : ∀ a ∈ A, ∀ b ∈ B, a ≤ b) : A.sum ≤ B.sum := by
 induction A generalizing B with
 | nil => simp
 | cons a A ih =>
   cases B with
   | nil => cases hl
   | cons b B =>
     have h1 := h a (List.mem_cons_self ..) b (List.mem_cons_self ..)
     have h2 := ih (by simpa using hl) fun x hx y hy => h x (List.mem_cons_of_mem _ hx) y (List.mem_cons_of_mem _ hy)
     simp only [List.sum_cons]
     omega
theorem le_sum {A : List Nat} {a : Nat} (h : a ∈ A) : a ≤ A.sum := by
 induction A with
 | nil => cases h
 | cons x A ih =>
   rw [List.sum_cons]
   rcases List.mem_cons.1 h with rfl | h
   ·omega
   ·have := ih h; omega
def sumN (q : Nat) (l : List (Nat × Bool)) : Nat := ((takeN q l).1.map (·.2)).sum
theorem taken_first : ∀ (q : Nat) (l : List (Nat × Bool)), q ≤ cf l → ∀ x ∈ (takeN q l).1, ∀ i v : Nat, (takeN q l).2[i]? = some (v, true) → x.2 < v ∨ (x.2 = v ∧ x.1 < i)
 | 0, l, _, x, hx, _, _, _ => by simp [takeN] at hx
 | q + 1, l, h, x, hx, i, v, hi => by
   obtain ⟨k, w, hl⟩ := cf_pos (l := l) (by omega)
   have hL := leastO_some hl
   have hc := cf_set hL.1
   have hT := takeN_spec (q + 1) l h
   have hold := hT.old i v hi
   rw [takeN_succ hl] at hx hi
   rcases List.mem_cons.1 hx with rfl | hx'
   ·have := hL.2 i v hold.1
    have hne := hold.2 (k, w) (by rw [takeN_succ hl]; exact List.mem_cons_self ..)
    show w < v ∨ (w = v ∧ k < i)
    have hne' : k ≠ i := hne
    omega
   ·exact taken_first q (l.set k (w, false)) (by omega) x hx' i v hi
theorem sumN_mono {q : Nat} (hq : 2 ≤ q) {l : List (Nat × Bool)} (h1 : q ≤ cf l) (h2 : q ≤ cf (nextL q l)) : sumN q l ≤ sumN q (nextL q l) := by
 have hT := takeN_spec q l h1
 have hT' := takeN_spec q (nextL q l) h2
 unfold sumN
 refine sum_le_sum (by rw [List.length_map, List.length_map, hT.len, hT'.len]) fun a ha b hb => ?_
 obtain ⟨x, hx, rfl⟩ := List.mem_map.1 ha
 obtain ⟨y, hy, rfl⟩ := List.mem_map.1 hb
 have hyl := (hT'.at_ y hy).1
 have : y.2 ∈ fw (nextL q l) := mem_fw.2 ⟨_, hyl⟩
 unfold nextL at this
 rw [fw_snoc] at this
 rcases List.mem_append.1 this with h | h
 ·exact hT.le x hx y.2 h
 ·rw [List.mem_singleton.1 h]
  exact le_sum ha
theorem dep_mono {q : Nat} (hq : 2 ≤ q) : ∀ (n : Nat) (l : List (Nat × Bool)) (d : List Nat), cf l ≤ n → 0 < cf l → cf l % (q - 1) = 1 % (q - 1) → l.length + (treeN q n l).length ≤ d.length → (∀ i, d.getD i 0 = 0) →
  (∀ i j v w : Nat, l[i]? = some (v, true) → l[j]? = some (w, true) → (w < v ∨ (w = v ∧ j < i)) → (depR l.length (treeN q n l) d).getD i 0 ≤ (depR l.length (treeN q n l) d).getD j 0) ∧
  (∀ i p v w : Nat, l[i]? = some (v, true) → l[p]? = some (w, true) → (1 < cf l → w ≤ sumN q l) → (depR l.length (treeN q n l) d).getD i 0 ≤ (depR l.length (treeN q n l) d).getD p 0 + 1)
 | 0, l, d, h, h0, _, _, _ => by omega
 | n + 1, l, d, h, h0, hm, hd, hz => by
   by_cases h1 : cf l ≤ 1
   ·rw [treeN_one h1]
    simp only [depR, hz]
    exact ⟨fun _ _ _ _ _ _ _ => Nat.le_refl _, fun _ _ _ _ _ _ _ => Nat.zero_le _⟩
   ·have hr := mod_room hq hm (by omega)
    have hT := takeN_spec q l hr
    have hF := taken_first q l hr
    have hc := cf_next hq hr
    have hl := next_len q hr
    have hm1 := mod_next hq hr hm
    have hc1 : 0 < cf (nextL q l) := by have := cf_snoc (takeN q l).2 (((takeN q l).1.map (·.2)).sum); unfold nextL; omega
    rw [treeN_succ h1] at hd ⊢
    rw [List.length_cons] at hd
    obtain ⟨i1, i2⟩ := dep_mono hq n (nextL q l) d (by omega) hc1 hm1 (by omega) hz
    rw [hl] at i1 i2
    generalize hms : treeN q n (nextL q l) = ms at i1 i2 hd ⊢
    have hdl : (depR (l.length + 1) ms d).length = d.length := depR_len _ _ _
    generalize hd1 : depR (l.length + 1) ms d = d1 at i1 i2 hdl ⊢
    have hns : ∀ x ∈ (takeN q l).1, x.1 ≠ l.length ∧ x.1 < d1.length := fun x hx => by
     have := (List.getElem?_eq_some_iff.1 (hT.at_ x hx).1).1
     omega
    have hat := depStep_at l.length (takeN q l).1 d1 hns
    have hD : depR l.length ((takeN q l).1 :: ms) d = depStep l.length (takeN q l).1 d1 := by rw [depR, hd1]
    rw [hD]
    have hsz : (takeN q l).2.length = l.length := hT.size
    -- a free node is taken, or stays free
    have part : ∀ i v : Nat, l[i]? = some (v, true) → ((i, v) ∈ (takeN q l).1 ∧ (depStep l.length (takeN q l).1 d1).getD i 0 = d1.getD l.length 0 + 1) ∨
      ((takeN q l).2[i]? = some (v, true) ∧ (nextL q l)[i]? = some (v, true) ∧ (depStep l.length (takeN q l).1 d1).getD i 0 = d1.getD i 0) := fun i v hi => by
     have hil := (List.getElem?_eq_some_iff.1 hi).1
     by_cases hin : i ∈ (takeN q l).1.map (·.1)
     ·obtain ⟨x, hx, e⟩ := List.mem_map.1 hin
      have h2 := (hT.at_ x hx).1
      rw [e, hi] at h2
      have e2 : x = (i, v) := by
       obtain ⟨a, b⟩ := x
       simp only [Option.some.injEq, Prod.mk.injEq, and_true] at h2
       simp only at e
       rw [e, h2]
      exact .inl ⟨by rw [← e2]; exact hx, by rw [hat, if_pos hin]⟩
     ·have h3 : (takeN q l).2[i]? = some (v, true) := by
       have hw := hT.wt i
       rw [hi] at hw
       cases h4 : (takeN q l).2[i]? with
       | none => rw [h4] at hw; cases hw
       | some y =>
         obtain ⟨u, f⟩ := y
         rw [h4] at hw
         simp at hw
         cases f with
         | true => rw [hw]
         | false =>
           exfalso
           -- counted twice: the sums over 'is it i'
           have hs := hT.sum fun k _ => if k = i then 1 else 0
           have e1 : ((takeN q l).1.map fun x => if x.1 = i then 1 else 0).sum = 0 := by
            have : ∀ ns : List (Nat × Nat), i ∉ ns.map (·.1) → (ns.map fun x => if x.1 = i then 1 else 0).sum = 0 := fun ns => by
             induction ns with
             | nil => intro _; rfl
             | cons x ns ih =>
               intro hn
               rw [List.map_cons, List.mem_cons, not_or] at hn
               rw [List.map_cons, List.sum_cons, ih hn.2, if_neg (fun e => hn.1 e.symm)]
            exact this _ hin
           have e2 : sf (fun k _ => if k = i then 1 else 0) (takeN q l).2 = 0 := by
            rw [sf_congr (g' := fun _ _ => 0)]
            ·have : ∀ (l : List (Nat × Bool)) (o : Nat), sfG (fun _ _ => 0) o l = 0 := fun l => by
              induction l with
              | nil => intro o; rfl
              | cons x r ih => intro o; simp [sfG, ih]
             exact this _ 0
            ·intro k u' hk
             rw [if_neg]
             intro e
             rw [e, h4] at hk
             simp at hk
           have e3 := sf_set (fun k _ => if k = i then 1 else 0) hi
           rw [if_pos rfl] at e3
           omega
      refine .inr ⟨h3, ?_, by rw [hat, if_neg hin]⟩
      unfold nextL
      rw [List.getElem?_append_left (by omega)]
      exact h3
    have hnew : (nextL q l)[l.length]? = some (sumN q l, true) := by
     unfold nextL sumN
     rw [List.getElem?_append_right (by omega), hsz, Nat.sub_self]
     rfl
    have hgrow : 1 < cf (nextL q l) → sumN q l ≤ sumN q (nextL q l) := fun h2 => sumN_mono hq hr (mod_room hq hm1 h2)
    have b_new : ∀ i v : Nat, (nextL q l)[i]? = some (v, true) → d1.getD i 0 ≤ d1.getD l.length 0 + 1 := fun i v hi => i2 i l.length v _ hi hnew hgrow
    refine ⟨fun i j v w hi hj hlt => ?_, fun i p v w hi hp hw => ?_⟩
    ·rcases part i v hi with ⟨a1, a2⟩ | ⟨a1, a2, a3⟩ <;> rcases part j w hj with ⟨b1, b2⟩ | ⟨b1, b2, b3⟩
     ·rw [a2, b2]; exact Nat.le_refl _
     ·have := hF (i, v) a1 j w b1
      simp only at this
      omega
     ·rw [a3, b2]; exact b_new i v a2
     ·rw [a3, b3]; exact i1 i j v w a2 b2 hlt
    ·have hwl := hw (by omega)
     have hpl := (List.getElem?_eq_some_iff.1 hp).1
     rcases part i v hi with ⟨a1, a2⟩ | ⟨a1, a2, a3⟩ <;> rcases part p w hp with ⟨b1, b2⟩ | ⟨b1, b2, b3⟩
     ·rw [a2, b2]; omega
     ·have := i1 l.length p _ w hnew b2 (by omega)
      rw [a2, b3]; omega
     ·have := b_new i v a2
      rw [a3, b2]; omega
     ·rw [a3, b3]
      exact i2 i p v w a2 b2 fun h2 => Nat.le_trans hwl (hgrow h2)
def padT (q n : Nat) : Nat := (q - 1 - (n - 1) % (q - 1)) % (q - 1)
def startL (q : Nat) (W : List Nat) : List (Nat × Bool) := (W ++ List.replicate (padT q W.length) 0).map fun w => (w, true)
def mergesH (q : Nat) (W : List Nat) : List (List (Nat × Nat)) := treeN q (startL q W).length (startL q W)
def depH (q : Nat) (W : List Nat) : List Nat := depR (startL q W).length (mergesH q W) (List.replicate ((startL q W).length + (mergesH q W).length) 0)
def lenH (q : Nat) (W : List Nat) : List Nat := (depH q W).take W.length
theorem cf_all (X : List Nat) : cf (X.map fun w => (w, true)) = X.length := by
 unfold cf
 rw [List.filter_eq_self.2 (by intro x hx; obtain ⟨w, -, rfl⟩ := List.mem_map.1 hx; rfl), List.length_map]
theorem fw_all (X : List Nat) : fw (X.map fun w => (w, true)) = X := by
 unfold fw
 rw [List.filter_eq_self.2 (by intro x hx; obtain ⟨w, -, rfl⟩ := List.mem_map.1 hx; rfl), List.map_map]
 simp [Function.comp_def]
theorem padT_lt {q n : Nat} (hq : 2 ≤ q) : padT q n < q - 1 := Nat.mod_lt _ (by omega)
theorem padT_mod {q n : Nat} (hq : 2 ≤ q) (hn : 1 ≤ n) : (n + padT q n) % (q - 1) = 1 % (q - 1) := by
 unfold padT
 obtain ⟨r, hr⟩ : ∃ r, q - 1 = r + 1 := ⟨q - 2, by omega⟩
 rw [hr]
 obtain ⟨m, rfl⟩ : ∃ m, n = m + 1 := ⟨n - 1, by omega⟩
 rw [Nat.add_sub_cancel, Nat.add_mod, Nat.mod_mod, ← Nat.add_mod]
 have h1 := Nat.mod_lt m (show 0 < r + 1 by omega)
 have h2 := Nat.div_add_mod m (r + 1)
 have e : m + 1 + (r + 1 - m % (r + 1)) = 1 + (r + 1) * (m / (r + 1) + 1) := by rw [Nat.mul_add, Nat.mul_one]; omega
 rw [e, Nat.add_mul_mod_self_left]
theorem startL_len (q : Nat) (W : List Nat) : (startL q W).length = W.length + padT q W.length := by simp [startL]
theorem startL_cf (q : Nat) (W : List Nat) : cf (startL q W) = (startL q W).length := by unfold startL; rw [cf_all, List.length_map]
theorem startL_mod {q : Nat} (hq : 2 ≤ q) {W : List Nat} (h1 : 1 ≤ W.length) : cf (startL q W) % (q - 1) = 1 % (q - 1) := by
 rw [startL_cf, startL_len]; exact padT_mod hq h1
theorem startL_pos {q : Nat} {W : List Nat} (h1 : 1 ≤ W.length) : 0 < cf (startL q W) := by rw [startL_cf, startL_len]; omega
theorem depH_len (q : Nat) (W : List Nat) : (depH q W).length = (startL q W).length + (mergesH q W).length := by unfold depH; rw [depR_len, List.length_replicate]
theorem lenH_len (q : Nat) (W : List Nat) : (lenH q W).length = W.length := by
 unfold lenH
 rw [List.length_take, depH_len, startL_len]
 omega
theorem startL_at {q : Nat} {W : List Nat} {i w : Nat} (h : W[i]? = some w) : (startL q W)[i]? = some (w, true) := by
 unfold startL
 rw [List.getElem?_map, List.getElem?_append_left (List.getElem?_eq_some_iff.1 h).1, h]
 rfl
theorem lenH_at {q : Nat} {W : List Nat} {i : Nat} (h : i < W.length) : (lenH q W)[i]? = some ((depH q W).getD i 0) := by
 have hl := depH_len q W
 rw [startL_len] at hl
 unfold lenH
 rw [List.getElem?_take, if_pos h, List.getD_eq_getElem?_getD, List.getElem?_eq_getElem (show i < (depH q W).length by omega)]
 rfl
theorem rep_zero (n i : Nat) : (List.replicate n 0).getD i 0 = 0 := by
 rw [List.getD_eq_getElem?_getD, List.getElem?_replicate]
 split <;> rfl
theorem sfG_zip (F : Nat → Nat → Nat) (D : List Nat) : ∀ (X : List Nat) (o : Nat), o + X.length ≤ D.length → sfG (fun i w => F w (D.getD i 0)) o (X.map fun w => (w, true)) = ((X.zip (D.drop o)).map fun x => F x.1 x.2).sum
 | [], o, _ => by simp [sfG]
 | w :: X, o, h => by
   rw [List.length_cons] at h
   have ho : o < D.length := by omega
   rw [List.map_cons, sfG, sfG_zip F D X (o + 1) (by omega), List.drop_eq_getElem_cons ho, List.zip_cons_cons, List.map_cons, List.sum_cons, if_pos rfl, List.getD_eq_getElem?_getD, List.getElem?_eq_getElem ho]
   rfl
theorem zip_pads (W D : List Nat) (t : Nat) (h : W.length ≤ D.length) : (W ++ List.replicate t 0).zip D = W.zip (D.take W.length) ++ (List.replicate t 0).zip (D.drop W.length) := by
 conv => lhs; rw [← List.take_append_drop W.length D]
 rw [List.zip_append (by rw [List.length_take]; omega)]
theorem lenH_spec {q : Nat} (hq : 2 ≤ q) {W : List Nat} (h1 : 1 ≤ W.length) :
  csP (W.zip (lenH q W)) = sumsT (mergesH q W) ∧ (∀ M, (mergesH q W).length ≤ M → kr q M (W.zip (lenH q W)) ≤ q ^ M ∧ (padT q W.length = 0 → kr q M (W.zip (lenH q W)) = q ^ M)) ∧ (∀ n ∈ lenH q W, n ≤ (mergesH q W).length) ∧
  (∀ p : List (Nat × Nat), (p.map (·.1)).Perm W → Fit q p → sumsT (mergesH q W) ≤ csP p) ∧
  (∀ i j v w m n : Nat, W[i]? = some v → W[j]? = some w → (lenH q W)[i]? = some m → (lenH q W)[j]? = some n → w < v → m ≤ n) ∧
  (mergesH q W).length * (q - 1) + 1 = (startL q W).length := by
 have hc := startL_cf q W
 have hp := startL_pos (q := q) h1
 have hm := startL_mod hq h1
 have hd0 : (startL q W).length + (treeN q (startL q W).length (startL q W)).length ≤ (List.replicate ((startL q W).length + (mergesH q W).length) 0).length := by rw [List.length_replicate]; exact Nat.le_refl _
 obtain ⟨a1, a2, a3⟩ := dep_sums hq (startL q W).length (startL q W) _ (by omega) hp hm hd0 (rep_zero _)
 obtain ⟨b1, -⟩ := dep_mono hq (startL q W).length (startL q W) _ (by omega) hp hm hd0 (rep_zero _)
 have hred := treeN_red hq (startL q W).length (startL q W) (by omega) hp hm
 have hlen := treeN_len hq (startL q W).length (startL q W) (by omega) hp hm
 change sf (fun i w => w * (depH q W).getD i 0) (startL q W) = sumsT (mergesH q W) at a1
 change ∀ M, (mergesH q W).length ≤ M → sf (fun i _ => q ^ (M - (depH q W).getD i 0)) (startL q W) = q ^ M at a2
 change ∀ i, (depH q W).getD i 0 ≤ (mergesH q W).length at a3
 have hDl := depH_len q W
 have hSl := startL_len q W
 have e1 : ∀ F : Nat → Nat → Nat, sf (fun i w => F w ((depH q W).getD i 0)) (startL q W) = ((W.zip (lenH q W)).map fun x => F x.1 x.2).sum + (((List.replicate (padT q W.length) 0).zip ((depH q W).drop W.length)).map fun x => F x.1 x.2).sum := fun F => by
  unfold sf startL
  rw [sfG_zip F (depH q W) _ 0 (by rw [List.length_append, List.length_replicate]; omega), List.drop_zero, zip_pads _ _ _ (by omega), List.map_append, List.sum_append_nat]
  rfl
 refine ⟨?_, fun M hM => ?_, fun n hn => ?_, fun p hpp hf => ?_, fun i j v w m n hi hj hmi hnj hlt => ?_, by rw [hc] at hlen; exact hlen⟩
 ·rw [← a1, e1 fun w d => w * d]
  have : (((List.replicate (padT q W.length) 0).zip ((depH q W).drop W.length)).map fun x => x.1 * x.2).sum = 0 := by
   have : ∀ (t : Nat) (D : List Nat), (((List.replicate t 0).zip D).map fun x => x.1 * x.2).sum = 0 := fun t => by
    induction t with
    | zero => intro D; simp
    | succ t ih =>
      intro D
      cases D with
      | nil => simp
      | cons x D => rw [List.replicate_succ, List.zip_cons_cons, List.map_cons, List.sum_cons, ih, Nat.zero_mul]
   exact this _ _
  rw [this]
  rfl
 ·have := a2 M hM
  rw [e1 fun _ d => q ^ (M - d)] at this
  refine ⟨by unfold kr; omega, fun hpad => ?_⟩
  rw [hpad] at this
  simp only [List.replicate_zero, List.zip_nil_left, List.map_nil, List.sum_nil, Nat.add_zero] at this
  exact this
 ·obtain ⟨i, hi⟩ := List.getElem?_of_mem hn
  have hil := (List.getElem?_eq_some_iff.1 hi).1
  rw [lenH_len] at hil
  rw [lenH_at hil] at hi
  have := a3 i
  simp only [Option.some.injEq] at hi
  omega
 ·have hfw : fw (startL q W) = W ++ List.replicate (padT q W.length) 0 := by unfold startL; rw [fw_all]
  rw [hfw] at hred
  exact hred.best hq (padT_lt hq) hpp hf
 ·have hil := (List.getElem?_eq_some_iff.1 hi).1
  have hjl := (List.getElem?_eq_some_iff.1 hj).1
  rw [lenH_at hil] at hmi
  rw [lenH_at hjl] at hnj
  simp only [Option.some.injEq] at hmi hnj
  have := b1 i j v w (startL_at hi) (startL_at hj) (.inl hlt)
  change (depH q W).getD i 0 ≤ (depH q W).getD j 0 at this
  omega
end Go.Proofs.Gv
namespace Go.Proofs.Gv
inductive Tk : List (Nat × Nat) → List (Nat × Bool) → List (Nat × Bool) → Prop
 | nil (l : List (Nat × Bool)) : Tk [] l l
 | cons {k w : Nat} {ns : List (Nat × Nat)} {l l' : List (Nat × Bool)} : l[k]? = some (w, true) → Tk ns (l.set k (w, false)) l' → Tk ((k, w) :: ns) l l'
structure Took (l l' : List (Nat × Bool)) (ns : List (Nat × Nat)) : Prop where
 size : l'.length = l.length
 cf : cf l = cf l' + ns.length
 at_ : ∀ x ∈ ns, l[x.1]? = some (x.2, true) ∧ l'[x.1]? = some (x.2, false)
 old : ∀ i w : Nat, l'[i]? = some (w, true) → l[i]? = some (w, true) ∧ ∀ x ∈ ns, x.1 ≠ i
 wt : ∀ i : Nat, (l'[i]?).map (·.1) = (l[i]?).map (·.1)
 sum : ∀ g, sf g l = (ns.map fun x => g x.1 x.2).sum + sf g l'
 perm : (fw l).Perm (ns.map (·.2) ++ fw l')
 stay : ∀ i w : Nat, l[i]? = some (w, true) → i ∉ ns.map (·.1) → l'[i]? = some (w, true)
theorem Tk.took {ns : List (Nat × Nat)} {l l' : List (Nat × Bool)} (h : Tk ns l l') : Took l l' ns := by
 induction h with
 | nil l => exact ⟨rfl, by simp, by simp, by simp, fun _ => rfl, by simp, by simp, fun i w hi _ => hi⟩
 | @cons k w ns l l' h1 h2 ih =>
   obtain ⟨hk, e⟩ := List.getElem?_eq_some_iff.1 h1
   have hk2 : (l.set k (w, false))[k]? = some (w, false) := by rw [List.getElem?_set_self hk]
   refine ⟨by rw [ih.size]; simp, by rw [cf_set h1, ih.cf]; exact Nat.add_assoc _ _ _, ?_, ?_, ?_, ?_, ?_, ?_⟩
   ·intro x hx
    rcases List.mem_cons.1 hx with rfl | hx
    ·refine ⟨h1, ?_⟩
     have h2 := ih.wt k
     rw [hk2] at h2
     cases h3 : l'[k]? with
     | none => rw [h3] at h2; cases h2
     | some y =>
       rw [h3] at h2
       obtain ⟨v, f⟩ := y
       simp at h2
       cases f with
       | false => rw [h2]
       | true =>
         have := (ih.old k v h3).1
         rw [hk2] at this
         simp at this
    ·obtain ⟨a1, a2⟩ := ih.at_ x hx
     refine ⟨?_, a2⟩
     by_cases hxk : k = x.1
     ·rw [← hxk, hk2] at a1; simp at a1
     ·rwa [List.getElem?_set_ne hxk] at a1
   ·intro i v hi
    obtain ⟨a1, a2⟩ := ih.old i v hi
    have hki : k ≠ i := fun e => by rw [← e, hk2] at a1; simp at a1
    rw [List.getElem?_set_ne hki] at a1
    refine ⟨a1, fun x hx => ?_⟩
    rcases List.mem_cons.1 hx with rfl | hx
    ·exact hki
    ·exact a2 x hx
   ·intro i
    rw [ih.wt i]
    by_cases hki : k = i
    ·subst hki; rw [hk2, h1]; rfl
    ·rw [List.getElem?_set_ne hki]
   ·intro g
    rw [sf_set g h1, ih.sum g, List.map_cons, List.sum_cons, Nat.add_assoc]
   ·refine (fw_set h1).trans ?_
    rw [List.map_cons, List.cons_append]
    exact ih.perm.cons w
   ·intro i v hi hn
    rw [List.map_cons, List.mem_cons, not_or] at hn
    exact ih.stay i v (by rw [List.getElem?_set_ne (fun e => hn.1 e.symm)]; exact hi) hn.2
theorem takeN_tk : ∀ (q : Nat) (l : List (Nat × Bool)), q ≤ cf l → Tk (takeN q l).1 l (takeN q l).2
 | 0, l, _ => .nil l
 | q + 1, l, h => by
   obtain ⟨k, w, hl⟩ := cf_pos (l := l) (by omega)
   have hL := leastO_some hl
   have hc := cf_set hL.1
   rw [takeN_succ hl]
   exact .cons hL.1 (takeN_tk q _ (by omega))
def sumW (ns : List (Nat × Nat)) : Nat := (ns.map (·.2)).sum
inductive Ms (q : Nat) : List (Nat × Bool) → List (List (Nat × Nat)) → Prop
 | nil {l : List (Nat × Bool)} : cf l = 1 → Ms q l []
 | cons {l l' : List (Nat × Bool)} {ns : List (Nat × Nat)} {ms : List (List (Nat × Nat))} : Tk ns l l' → ns.length = q → Ms q (l' ++ [(sumW ns, true)]) ms → Ms q l (ns :: ms)
theorem treeN_ms {q : Nat} (hq : 2 ≤ q) : ∀ (n : Nat) (l : List (Nat × Bool)), cf l ≤ n → 0 < cf l → cf l % (q - 1) = 1 % (q - 1) → Ms q l (treeN q n l)
 | 0, l, h, h0, _ => by omega
 | n + 1, l, h, h0, hm => by
   by_cases h1 : cf l ≤ 1
   ·rw [treeN_one h1]; exact .nil (by omega)
   ·have hr := mod_room hq hm (by omega)
    have hc := cf_next hq hr
    rw [treeN_succ h1]
    exact .cons (takeN_tk q l hr) (takeN_spec q l hr).len (treeN_ms hq n (nextL q l) (by omega) (by have := cf_snoc (takeN q l).2 (((takeN q l).1.map (·.2)).sum); unfold nextL; omega) (mod_next hq hr hm))
theorem Ms.len {q : Nat} (hq : 2 ≤ q) {l : List (Nat × Bool)} {ms : List (List (Nat × Nat))} (h : Ms q l ms) : ms.length * (q - 1) + 1 = cf l := by
 induction h with
 | nil h => simp [h]
 | @cons l l' ns ms h1 h2 _ ih =>
   have := h1.took.cf
   rw [cf_snoc] at ih
   rw [List.length_cons, Nat.add_mul, Nat.one_mul]
   omega
theorem sf_one {l : List (Nat × Bool)} (c : Nat) : sf (fun _ _ => c) l = c * cf l := by
 have : ∀ (l : List (Nat × Bool)) (o : Nat), sfG (fun _ _ => c) o l = c * cf l := fun l => by
  induction l with
  | nil => intro o; simp [sfG, cf]
  | cons x r ih =>
    intro o
    obtain ⟨w, f⟩ := x
    simp only [sfG, ih]
    cases f <;> simp [cf, List.filter_cons, Nat.mul_add]
    omega
 exact this l 0
theorem Ms.sums {q : Nat} (hq : 2 ≤ q) {l : List (Nat × Bool)} {ms : List (List (Nat × Nat))} (h : Ms q l ms) : ∀ (d : List Nat), l.length + ms.length ≤ d.length → (∀ i, d.getD i 0 = 0) →
  sf (fun i w => w * (depR l.length ms d).getD i 0) l = sumsT ms ∧
  (∀ M, ms.length ≤ M → sf (fun i _ => q ^ (M - (depR l.length ms d).getD i 0)) l = q ^ M) ∧
  (∀ i, (depR l.length ms d).getD i 0 ≤ ms.length) ∧ (2 ≤ cf l → ∀ i w : Nat, l[i]? = some (w, true) → 1 ≤ (depR l.length ms d).getD i 0) := by
 induction h with
 | @nil l h =>
   intro d _ hz
   simp only [depR, hz, Nat.mul_zero, Nat.sub_zero, sumsT, List.map_nil, List.sum_nil, List.length_nil]
   exact ⟨by rw [sf_one]; omega, fun M _ => by rw [sf_one, h, Nat.mul_one], fun _ => Nat.le_refl _, fun h2 => by omega⟩
 | @cons l l' ns ms hT0 hlen hrest ih =>
   intro d hd hz
   have hT := hT0.took
   rw [List.length_cons] at hd
   have hl : (l' ++ [(sumW ns, true)]).length = l.length + 1 := by rw [List.length_append, hT.size]; rfl
   obtain ⟨i1, i2, i3, i4⟩ := ih d (by omega) hz
   rw [hl] at i1 i2 i3 i4
   have hdl : (depR (l.length + 1) ms d).length = d.length := depR_len _ _ _
   generalize hd1 : depR (l.length + 1) ms d = d1 at i1 i2 i3 i4 hdl
   have hns : ∀ x ∈ ns, x.1 ≠ l.length ∧ x.1 < d1.length := fun x hx => by
    have := (List.getElem?_eq_some_iff.1 (hT.at_ x hx).1).1
    omega
   have hat := depStep_at l.length ns d1 hns
   have hD : depR l.length (ns :: ms) d = depStep l.length ns d1 := by rw [depR, hd1]
   rw [hD]
   have hin : ∀ x ∈ ns, (depStep l.length ns d1).getD x.1 0 = d1.getD l.length 0 + 1 := fun x hx => by
    rw [hat, if_pos (List.mem_map_of_mem hx)]
   have hout : ∀ i w : Nat, l'[i]? = some (w, true) → (depStep l.length ns d1).getD i 0 = d1.getD i 0 := fun i w hi => by
    rw [hat, if_neg]
    intro hm
    obtain ⟨x, hx, e⟩ := List.mem_map.1 hm
    exact (hT.old i w hi).2 x hx e
   refine ⟨?_, ?_, ?_, ?_⟩
   ·rw [hT.sum, sf_congr (l := l') (g' := fun i w => w * d1.getD i 0) fun i w hi => by rw [hout i w hi]]
    have e1 : (ns.map fun x => x.2 * (depStep l.length ns d1).getD x.1 0).sum = sumW ns * (d1.getD l.length 0 + 1) := by
     rw [List.map_congr_left (g := fun x => x.2 * (d1.getD l.length 0 + 1)) fun x hx => by rw [hin x hx]]
     unfold sumW
     generalize d1.getD l.length 0 + 1 = c
     clear hd1 hat hD hin hout hns hT hT0 i1 i2 i3 i4 hrest hlen hl ih
     induction ns with
     | nil => simp
     | cons x ns ih => simp only [List.map_cons, List.sum_cons, ih, Nat.add_mul]
    rw [e1]
    rw [sf_snoc, hT.size] at i1
    unfold sumsT at i1 ⊢
    rw [List.map_cons, List.sum_cons, ← i1, Nat.mul_add, Nat.mul_one]
    unfold sumW
    omega
   ·intro M hM
    rw [List.length_cons] at hM
    have i2M := i2 M (by omega)
    have h3 := i3 l.length
    rw [hT.sum, sf_congr (l := l') (g' := fun i w => q ^ (M - d1.getD i 0)) fun i w hi => by rw [hout i w hi]]
    have e1 : (ns.map fun x => q ^ (M - (depStep l.length ns d1).getD x.1 0)).sum = q ^ (M - d1.getD l.length 0) := by
     rw [List.map_congr_left (g := fun _ => q ^ (M - (d1.getD l.length 0 + 1))) fun x hx => by rw [hin x hx]]
     rw [List.map_const', List.sum_replicate_nat, hlen, ← Nat.pow_succ']
     congr 1
     omega
    rw [e1]
    rw [sf_snoc, hT.size] at i2M
    omega
   ·intro i
    rw [hat, List.length_cons]
    split
    ·have := i3 l.length; omega
    ·have := i3 i; omega
   ·intro h2 i w hi
    by_cases hin' : i ∈ ns.map (·.1)
    ·rw [hat, if_pos hin']; omega
    ·have hs := hT.stay i w hi hin'
     rw [hout i w hs]
     have hil := (List.getElem?_eq_some_iff.1 hs).1
     have hi1 : (l' ++ [(sumW ns, true)])[i]? = some (w, true) := by rw [List.getElem?_append_left hil]; exact hs
     have hc : 2 ≤ cf (l' ++ [(sumW ns, true)]) := by
      rw [cf_snoc]
      have := cf_set hs
      omega
     exact i4 hc i w hi1
inductive MsL (q : Nat) : List (Nat × Bool) → List (List (Nat × Nat)) → Prop
 | nil {l : List (Nat × Bool)} : cf l = 1 → MsL q l []
 | cons {l l' : List (Nat × Bool)} {ns : List (Nat × Nat)} {ms : List (List (Nat × Nat))} : Tk ns l l' → ns.length = q → (∀ x ∈ ns, ∀ b ∈ fw l', x.2 ≤ b) → MsL q (l' ++ [(sumW ns, true)]) ms → MsL q l (ns :: ms)
theorem MsL.ms {q : Nat} {l : List (Nat × Bool)} {ms : List (List (Nat × Nat))} (h : MsL q l ms) : Ms q l ms := by
 induction h with
 | nil h => exact .nil h
 | cons h1 h2 _ _ ih => exact .cons h1 h2 ih
end Go.Proofs.Gv
namespace Go.Proofs.Gv
def freeI (l : List (Nat × Bool)) (a : Int) : Bool := decide (0 ≤ a) && ((l[a.toNat]?).map (·.2)).getD false
def wAt (l : List (Nat × Bool)) (i : Nat) : Nat := ((l[i]?).map (·.1)).getD 0
theorem freeI_spec {l : List (Nat × Bool)} {a : Int} (h : freeI l a = true) : ∃ i : Nat, a = i ∧ l[i]? = some (wAt l i, true) := by
 unfold freeI at h
 simp only [Bool.and_eq_true, decide_eq_true_eq] at h
 refine ⟨a.toNat, by omega, ?_⟩
 unfold wAt
 cases hl : l[a.toNat]? with
 | none => rw [hl] at h; simp at h
 | some x =>
   obtain ⟨w, f⟩ := x
   rw [hl] at h
   simp at h
   rw [h.2]
   rfl
def joinL (l : List (Nat × Bool)) (i j : Nat) : List (Nat × Bool) := (l.set i (wAt l i, false)).set j (wAt l j, false)
def lessB (l : List (Nat × Bool)) (i j : Nat) : Bool := (joinL l i j).any fun x => x.2 && (decide (x.1 < wAt l i) || decide (x.1 < wAt l j))
def okJ (chk : Bool) (l : List (Nat × Bool)) (x : Int × Int) : Bool := decide (x.1 ≠ x.2) && freeI l x.1 && freeI l x.2 && !(chk && lessB l x.1.toNat x.2.toNat)
def nodesJ (l : List (Nat × Bool)) (x : Int × Int) : List (Nat × Nat) := [(x.1.toNat, wAt l x.1.toNat), (x.2.toNat, wAt l x.2.toNat)]
def stepJ (l : List (Nat × Bool)) (x : Int × Int) : List (Nat × Bool) := joinL l x.1.toNat x.2.toNat ++ [(wAt l x.1.toNat + wAt l x.2.toNat, true)]
def joinsJ (chk : Bool) : List (Int × Int) → List (Nat × Bool) → Option (List (List (Nat × Nat)))
 | [], _ => some []
 | x :: r, l => if okJ chk l x then (joinsJ chk r (stepJ l x)).map (nodesJ l x :: ·) else none
theorem okJ_spec {chk : Bool} {l : List (Nat × Bool)} {x : Int × Int} (h : okJ chk l x = true) : ∃ i j : Nat, x = ((i : Int), (j : Int)) ∧ i ≠ j ∧ l[i]? = some (wAt l i, true) ∧ l[j]? = some (wAt l j, true) ∧ (chk = true → lessB l i j = false) := by
 unfold okJ at h
 simp only [Bool.and_eq_true, decide_eq_true_eq, Bool.not_eq_true'] at h
 obtain ⟨⟨⟨h1, h2⟩, h3⟩, h4⟩ := h
 obtain ⟨i, e1, f1⟩ := freeI_spec h2
 obtain ⟨j, e2, f2⟩ := freeI_spec h3
 refine ⟨i, j, by rw [← e1, ← e2], fun e => h1 (by rw [e1, e2, e]), f1, f2, fun hc => ?_⟩
 rw [hc, e1, e2] at h4
 simpa using h4
theorem joinL_tk {l : List (Nat × Bool)} {i j : Nat} (hne : i ≠ j) (h1 : l[i]? = some (wAt l i, true)) (h2 : l[j]? = some (wAt l j, true)) : Tk [(i, wAt l i), (j, wAt l j)] l (joinL l i j) :=
 .cons h1 (.cons (by rw [List.getElem?_set_ne hne]; exact h2) (.nil _))
theorem joinsJ_ms {chk : Bool} : ∀ (r : List (Int × Int)) (l : List (Nat × Bool)) (ms : List (List (Nat × Nat))), joinsJ chk r l = some ms → r.length + 1 = cf l → Ms 2 l ms ∧ (chk = true → MsL 2 l ms) ∧ ms.length = r.length
 | [], l, ms, h, hc => by
   simp only [joinsJ, Option.some.injEq] at h
   subst h
   simp only [List.length_nil] at hc
   exact ⟨.nil (by omega), fun _ => .nil (by omega), rfl⟩
 | x :: r, l, ms, h, hc => by
   unfold joinsJ at h
   split at h
   ·rename_i hok
    obtain ⟨ms', h', rfl⟩ := Option.map_eq_some_iff.1 h
    obtain ⟨i, j, rfl, hne, h1, h2, h3⟩ := okJ_spec hok
    have ht := joinL_tk hne h1 h2
    have hcf := ht.took.cf
    simp only [List.length_cons, List.length_nil] at hc hcf
    obtain ⟨a1, a2, a3⟩ := joinsJ_ms r _ ms' h' (by unfold stepJ; rw [cf_snoc]; simp only [Int.toNat_natCast]; omega)
    have e : stepJ l ((i : Int), (j : Int)) = joinL l i j ++ [(sumW [(i, wAt l i), (j, wAt l j)], true)] := by simp [stepJ, sumW]
    rw [e] at a1 a2
    refine ⟨.cons ht rfl a1, fun hk => .cons ht rfl (fun y hy b hb => ?_) (a2 hk), by simp [a3]⟩
    have h4 := h3 hk
    unfold lessB at h4
    rw [List.any_eq_false] at h4
    obtain ⟨m, hm⟩ := mem_fw.1 hb
    have h5 := h4 (b, true) (List.mem_of_getElem? hm)
    simp at h5
    simp only [nodesJ, Int.toNat_natCast, List.mem_cons, List.not_mem_nil, or_false] at hy
    rcases hy with rfl | rfl
    ·exact h5.1
    ·exact h5.2
   ·cases h
def parOf (p : Nat) : List (List (Nat × Nat)) → Nat → Option Nat
 | [], _ => none
 | ns :: r, k => if k ∈ ns.map (·.1) then some p else parOf (p + 1) r k
theorem parOf_gt : ∀ (ms : List (List (Nat × Nat))) (p k m : Nat), parOf p ms k = some m → p ≤ m ∧ m < p + ms.length
 | [], _, _, _, h => by cases h
 | ns :: r, p, k, m, h => by
   unfold parOf at h
   split at h
   ·simp only [Option.some.injEq] at h
    subst h
    simp only [List.length_cons]
    omega
   ·have := parOf_gt r (p + 1) k m h
    simp only [List.length_cons]
    omega
theorem depR_par : ∀ (ms : List (List (Nat × Nat))) (p : Nat) (d : List Nat), (∀ i, d.getD i 0 = 0) → p + ms.length ≤ d.length → (∀ (a : List (List (Nat × Nat))) (ns : List (Nat × Nat)) (b : List (List (Nat × Nat))), ms = a ++ ns :: b → ∀ x ∈ ns, x.1 < p + a.length) →
  ∀ k, (depR p ms d).getD k 0 = match parOf p ms k with | none => 0 | some m => (depR p ms d).getD m 0 + 1
 | [], p, d, hz, _, _, k => by simp only [depR, parOf]; exact hz k
 | ns :: r, p, d, hz, hd, hlt, k => by
   simp only [List.length_cons] at hd
   have ih := depR_par r (p + 1) d hz (by omega) fun a ns' b e x hx => by
    have := hlt (ns :: a) ns' b (by rw [e]; rfl) x hx
    simp only [List.length_cons] at this
    omega
   have hns : ∀ x ∈ ns, x.1 < p := fun x hx => by have := hlt [] ns r rfl x hx; simpa using this
   have hdl : (depR (p + 1) r d).length = d.length := depR_len _ _ _
   have hat := depStep_at p ns (depR (p + 1) r d) fun x hx => ⟨by have := hns x hx; omega, by have := hns x hx; omega⟩
   have keep : ∀ m, p ≤ m → (depStep p ns (depR (p + 1) r d)).getD m 0 = (depR (p + 1) r d).getD m 0 := fun m hm => by
    rw [hat, if_neg]
    intro h
    obtain ⟨x, hx, e⟩ := List.mem_map.1 h
    have := hns x hx
    omega
   rw [depR]
   unfold parOf
   by_cases hk : k ∈ ns.map (·.1)
   ·rw [if_pos hk]
    simp only
    rw [hat, if_pos hk, keep p (Nat.le_refl _)]
   ·rw [if_neg hk, hat, if_neg hk, ih k]
    cases hp : parOf (p + 1) r k with
    | none => rfl
    | some m =>
      have := parOf_gt r (p + 1) k m hp
      simp only
      rw [keep m (by omega)]
theorem Ms.lt {q : Nat} {l : List (Nat × Bool)} {ms : List (List (Nat × Nat))} (h : Ms q l ms) : ∀ (a : List (List (Nat × Nat))) (ns : List (Nat × Nat)) (b : List (List (Nat × Nat))), ms = a ++ ns :: b → ∀ x ∈ ns, x.1 < l.length + a.length := by
 induction h with
 | nil _ => intro a ns b e; simp at e
 | @cons l l' ns0 ms hT _ _ ih =>
   intro a ns b e x hx
   cases a with
   | nil =>
     simp only [List.nil_append, List.cons.injEq] at e
     obtain ⟨rfl, rfl⟩ := e
     have := (List.getElem?_eq_some_iff.1 (hT.took.at_ x hx).1).1
     simpa using this
   | cons y a =>
     simp only [List.cons_append, List.cons.injEq] at e
     have := ih a ns b e.2 x hx
     rw [List.length_append, hT.took.size] at this
     simp only [List.length_cons, List.length_nil] at this ⊢
     omega
theorem Took.len {l l' : List (Nat × Bool)} {ns : List (Nat × Nat)} (h : Took l l' ns) : l'.map (·.1) = l.map (·.1) := by
 apply List.ext_getElem?
 intro i
 rw [List.getElem?_map, List.getElem?_map]
 exact h.wt i
def pairsOf (ms : List (List (Nat × Nat))) : List (Int × Int) := ms.map fun ns => match ns with | [a, b] => ((a.1 : Int), (b.1 : Int)) | _ => (0, 0)
end Go.Proofs.Gv
namespace Go.Proofs.Gv
open Go Go.RowKit Go.Maps
theorem VN_inj {x y : Nat} (h : VN x = VN y) : x = y := by
 unfold VN at h
 have : mg x = mg y := by simpa using h
 have := congrArg (fun s => bv s.data.toList) this
 simpa [bv_mg] using this
noncomputable def RI (v : Value) : Option (DataW Unit × List MemPlace) := open Classical in if h : ∃ z : Nat, v = VN z then some (.lit (.int .i64 (h.choose : Int)), []) else none
theorem RI_mk (z : Nat) : RI (VN z) = some (.lit (.int .i64 (z : Int)), []) := by
 have h : ∃ y : Nat, VN z = VN y := ⟨z, rfl⟩
 unfold RI
 rw [dif_pos h]
 have : h.choose = z := (VN_inj h.choose_spec).symm
 rw [this]
theorem RI_inv {v : Value} {y : DataW Unit × List MemPlace} (h : RI v = some y) : ∃ z : Nat, v = VN z ∧ y = (.lit (.int .i64 (z : Int)), []) := by
 unfold RI at h
 split at h
 ·rename_i hz
  exact ⟨hz.choose, hz.choose_spec, (Option.some.inj h).symm⟩
 ·cases h
theorem lawI : Keyed Tryz.prog 3 := int_keyed Tryz.underlying3
structure MapL (W : World) (b n : Nat) (l : List (Nat × Bool)) : Prop where
 ex : ∃ D : DataW Unit, W.ownsMap Tryz.prog 3 RI b n D ∧ Maps.size D = cf l ∧ (∀ x : Int, Maps.has D (.int .i64 x) = freeI l x) ∧ ∀ (i v : Nat), l[i]? = some (v, true) → ∀ zd, D.atKey (.int .i64 (i : Int)) zd = .lit (.int .i64 (v : Int))
theorem MapL.kept {W W' : World} {b n : Nat} {l : List (Nat × Bool)} {row : Option Nat} (h : MapL W b n l) (hg : W.grownBy W' row) (hne : some b ≠ row) : MapL W' b n l := by
 obtain ⟨D, h1, h2⟩ := h.ex
 exact ⟨D, h1.kept hg hne, h2⟩
theorem MapL.lt {W : World} {b n : Nat} {l : List (Nat × Bool)} (h : MapL W b n l) : b < W.heap.size := by
 obtain ⟨D, h1, h2⟩ := h.ex
 exact h1.lt
theorem Below.grows {W W' : World} (h : Below W.heap.size W W') : W.grownBy W' none := ⟨h.os, h.tape, h.output, h.size, fun i hi _ => h.block i hi⟩
theorem MapL.below {W W' : World} {b n : Nat} {l : List (Nat × Bool)} (h : MapL W b n l) (hb : Below W.heap.size W W') : MapL W' b n l := h.kept (Below.grows hb) (by simp)
end Go.Proofs.Gv
