/- Merges that join free nodes, plainly: whatever they are, their depths cost their sums. -/
import Derived.Test.YtglgiofjgfbfgaaHufM
import Derived.Test.YtglgiofjgfbfgaaHordP
import Derived.Maps.RangeWalk
import Derived.Maps.OwnSet
import Derived.Maps.OwnOps
set_option linter.unusedSimpArgs false
set_option linter.unusedVariables false
namespace Go.Proofs.Gv

/-- Free nodes taken one behind the other. -/
inductive Tk : List (Nat × Nat) → List (Nat × Bool) → List (Nat × Bool) → Prop
  | nil (l : List (Nat × Bool)) : Tk [] l l
  | cons {k w : Nat} {ns : List (Nat × Nat)} {l l' : List (Nat × Bool)} : l[k]? = some (w, true) → Tk ns (l.set k (w, false)) l' → Tk ((k, w) :: ns) l l'
structure Took (l l' : List (Nat × Bool)) (ns : List (Nat × Nat)) : Prop where
  size : l'.length = l.length
  cf : cf l = cf l' + ns.length
  at_ : ∀ x ∈ ns, l[x.1]? = some (x.2, true) ∧ l'[x.1]? = some (x.2, false)
  old : ∀ i w : Nat, l'[i]? = some (w, true) → l[i]? = some (w, true) ∧ ∀ x ∈ ns, x.1 ≠ i
  wt : ∀ i : Nat, (l'[i]?).map (·.1) = (l[i]?).map (·.1)
  sum : ∀ g, sf g l = (ns.map fun x => g x.1 x.2).sum + sf g l'
  perm : (fw l).Perm (ns.map (·.2) ++ fw l')
  stay : ∀ i w : Nat, l[i]? = some (w, true) → i ∉ ns.map (·.1) → l'[i]? = some (w, true)
theorem Tk.took {ns : List (Nat × Nat)} {l l' : List (Nat × Bool)} (h : Tk ns l l') : Took l l' ns := by
  induction h with
  | nil l => exact ⟨rfl, by simp, by simp, by simp, fun _ => rfl, by simp, by simp, fun i w hi _ => hi⟩
  | @cons k w ns l l' h1 h2 ih =>
    obtain ⟨hk, e⟩ := List.getElem?_eq_some_iff.1 h1
    have hk2 : (l.set k (w, false))[k]? = some (w, false) := by rw [List.getElem?_set_self hk]
    refine ⟨by rw [ih.size]; simp, by rw [cf_set h1, ih.cf]; exact Nat.add_assoc _ _ _, ?_, ?_, ?_, ?_, ?_, ?_⟩
    · intro x hx
      rcases List.mem_cons.1 hx with rfl | hx
      · refine ⟨h1, ?_⟩
        have h2 := ih.wt k
        rw [hk2] at h2
        cases h3 : l'[k]? with
        | none => rw [h3] at h2; cases h2
        | some y =>
          rw [h3] at h2
          obtain ⟨v, f⟩ := y
          simp at h2
          cases f with
          | false => rw [h2]
          | true =>
            have := (ih.old k v h3).1
            rw [hk2] at this
            simp at this
      · obtain ⟨a1, a2⟩ := ih.at_ x hx
        refine ⟨?_, a2⟩
        by_cases hxk : k = x.1
        · rw [← hxk, hk2] at a1; simp at a1
        · rwa [List.getElem?_set_ne hxk] at a1
    · intro i v hi
      obtain ⟨a1, a2⟩ := ih.old i v hi
      have hki : k ≠ i := fun e => by rw [← e, hk2] at a1; simp at a1
      rw [List.getElem?_set_ne hki] at a1
      refine ⟨a1, fun x hx => ?_⟩
      rcases List.mem_cons.1 hx with rfl | hx
      · exact hki
      · exact a2 x hx
    · intro i
      rw [ih.wt i]
      by_cases hki : k = i
      · subst hki; rw [hk2, h1]; rfl
      · rw [List.getElem?_set_ne hki]
    · intro g
      rw [sf_set g h1, ih.sum g, List.map_cons, List.sum_cons, Nat.add_assoc]
    · refine (fw_set h1).trans ?_
      rw [List.map_cons, List.cons_append]
      exact ih.perm.cons w
    · intro i v hi hn
      rw [List.map_cons, List.mem_cons, not_or] at hn
      exact ih.stay i v (by rw [List.getElem?_set_ne (fun e => hn.1 e.symm)]; exact hi) hn.2
theorem takeN_tk : ∀ (q : Nat) (l : List (Nat × Bool)), q ≤ cf l → Tk (takeN q l).1 l (takeN q l).2
  | 0, l, _ => .nil l
  | q + 1, l, h => by
    obtain ⟨k, w, hl⟩ := cf_pos (l := l) (by omega)
    have hL := leastO_some hl
    have hc := cf_set hL.1
    rw [takeN_succ hl]
    exact .cons hL.1 (takeN_tk q _ (by omega))
def sumW (ns : List (Nat × Nat)) : Nat := (ns.map (·.2)).sum
/-- Merges of q free nodes each, till one is free. -/
inductive Ms (q : Nat) : List (Nat × Bool) → List (List (Nat × Nat)) → Prop
  | nil {l : List (Nat × Bool)} : cf l = 1 → Ms q l []
  | cons {l l' : List (Nat × Bool)} {ns : List (Nat × Nat)} {ms : List (List (Nat × Nat))} : Tk ns l l' → ns.length = q → Ms q (l' ++ [(sumW ns, true)]) ms → Ms q l (ns :: ms)
theorem treeN_ms {q : Nat} (hq : 2 ≤ q) : ∀ (n : Nat) (l : List (Nat × Bool)), cf l ≤ n → 0 < cf l → cf l % (q - 1) = 1 % (q - 1) → Ms q l (treeN q n l)
  | 0, l, h, h0, _ => by omega
  | n + 1, l, h, h0, hm => by
    by_cases h1 : cf l ≤ 1
    · rw [treeN_one h1]; exact .nil (by omega)
    · have hr := mod_room hq hm (by omega)
      have hc := cf_next hq hr
      rw [treeN_succ h1]
      exact .cons (takeN_tk q l hr) (takeN_spec q l hr).len (treeN_ms hq n (nextL q l) (by omega) (by have := cf_snoc (takeN q l).2 (((takeN q l).1.map (·.2)).sum); unfold nextL; omega) (mod_next hq hr hm))
theorem Ms.len {q : Nat} (hq : 2 ≤ q) {l : List (Nat × Bool)} {ms : List (List (Nat × Nat))} (h : Ms q l ms) : ms.length * (q - 1) + 1 = cf l := by
  induction h with
  | nil h => simp [h]
  | @cons l l' ns ms h1 h2 _ ih =>
    have := h1.took.cf
    rw [cf_snoc] at ih
    rw [List.length_cons, Nat.add_mul, Nat.one_mul]
    omega
theorem sf_one {l : List (Nat × Bool)} (c : Nat) : sf (fun _ _ => c) l = c * cf l := by
  have : ∀ (l : List (Nat × Bool)) (o : Nat), sfG (fun _ _ => c) o l = c * cf l := fun l => by
    induction l with
    | nil => intro o; simp [sfG, cf]
    | cons x r ih =>
      intro o
      obtain ⟨w, f⟩ := x
      simp only [sfG, ih]
      cases f <;> simp [cf, List.filter_cons, Nat.mul_add]
      omega
  exact this l 0
/-- Cost and room of the depths of the nodes that are free at some time. -/
theorem Ms.sums {q : Nat} (hq : 2 ≤ q) {l : List (Nat × Bool)} {ms : List (List (Nat × Nat))} (h : Ms q l ms) : ∀ (d : List Nat), l.length + ms.length ≤ d.length → (∀ i, d.getD i 0 = 0) →
    sf (fun i w => w * (depR l.length ms d).getD i 0) l = sumsT ms ∧
    (∀ M, ms.length ≤ M → sf (fun i _ => q ^ (M - (depR l.length ms d).getD i 0)) l = q ^ M) ∧
    (∀ i, (depR l.length ms d).getD i 0 ≤ ms.length) ∧ (2 ≤ cf l → ∀ i w : Nat, l[i]? = some (w, true) → 1 ≤ (depR l.length ms d).getD i 0) := by
  induction h with
  | @nil l h =>
    intro d _ hz
    simp only [depR, hz, Nat.mul_zero, Nat.sub_zero, sumsT, List.map_nil, List.sum_nil, List.length_nil]
    exact ⟨by rw [sf_one]; omega, fun M _ => by rw [sf_one, h, Nat.mul_one], fun _ => Nat.le_refl _, fun h2 => by omega⟩
  | @cons l l' ns ms hT0 hlen hrest ih =>
    intro d hd hz
    have hT := hT0.took
    rw [List.length_cons] at hd
    have hl : (l' ++ [(sumW ns, true)]).length = l.length + 1 := by rw [List.length_append, hT.size]; rfl
    obtain ⟨i1, i2, i3, i4⟩ := ih d (by omega) hz
    rw [hl] at i1 i2 i3 i4
    have hdl : (depR (l.length + 1) ms d).length = d.length := depR_len _ _ _
    generalize hd1 : depR (l.length + 1) ms d = d1 at i1 i2 i3 i4 hdl
    have hns : ∀ x ∈ ns, x.1 ≠ l.length ∧ x.1 < d1.length := fun x hx => by
      have := (List.getElem?_eq_some_iff.1 (hT.at_ x hx).1).1
      omega
    have hat := depStep_at l.length ns d1 hns
    have hD : depR l.length (ns :: ms) d = depStep l.length ns d1 := by rw [depR, hd1]
    rw [hD]
    have hin : ∀ x ∈ ns, (depStep l.length ns d1).getD x.1 0 = d1.getD l.length 0 + 1 := fun x hx => by
      rw [hat, if_pos (List.mem_map_of_mem hx)]
    have hout : ∀ i w : Nat, l'[i]? = some (w, true) → (depStep l.length ns d1).getD i 0 = d1.getD i 0 := fun i w hi => by
      rw [hat, if_neg]
      intro hm
      obtain ⟨x, hx, e⟩ := List.mem_map.1 hm
      exact (hT.old i w hi).2 x hx e
    refine ⟨?_, ?_, ?_, ?_⟩
    · rw [hT.sum, sf_congr (l := l') (g' := fun i w => w * d1.getD i 0) fun i w hi => by rw [hout i w hi]]
      have e1 : (ns.map fun x => x.2 * (depStep l.length ns d1).getD x.1 0).sum = sumW ns * (d1.getD l.length 0 + 1) := by
        rw [List.map_congr_left (g := fun x => x.2 * (d1.getD l.length 0 + 1)) fun x hx => by rw [hin x hx]]
        unfold sumW
        generalize d1.getD l.length 0 + 1 = c
        clear hd1 hat hD hin hout hns hT hT0 i1 i2 i3 i4 hrest hlen hl ih
        induction ns with
        | nil => simp
        | cons x ns ih => simp only [List.map_cons, List.sum_cons, ih, Nat.add_mul]
      rw [e1]
      rw [sf_snoc, hT.size] at i1
      unfold sumsT at i1 ⊢
      rw [List.map_cons, List.sum_cons, ← i1, Nat.mul_add, Nat.mul_one]
      unfold sumW
      omega
    · intro M hM
      rw [List.length_cons] at hM
      have i2M := i2 M (by omega)
      have h3 := i3 l.length
      rw [hT.sum, sf_congr (l := l') (g' := fun i w => q ^ (M - d1.getD i 0)) fun i w hi => by rw [hout i w hi]]
      have e1 : (ns.map fun x => q ^ (M - (depStep l.length ns d1).getD x.1 0)).sum = q ^ (M - d1.getD l.length 0) := by
        rw [List.map_congr_left (g := fun _ => q ^ (M - (d1.getD l.length 0 + 1))) fun x hx => by rw [hin x hx]]
        rw [List.map_const', List.sum_replicate_nat, hlen, ← Nat.pow_succ']
        congr 1
        omega
      rw [e1]
      rw [sf_snoc, hT.size] at i2M
      omega
    · intro i
      rw [hat, List.length_cons]
      split
      · have := i3 l.length; omega
      · have := i3 i; omega
    · intro h2 i w hi
      by_cases hin' : i ∈ ns.map (·.1)
      · rw [hat, if_pos hin']; omega
      · have hs := hT.stay i w hi hin'
        rw [hout i w hs]
        have hil := (List.getElem?_eq_some_iff.1 hs).1
        have hi1 : (l' ++ [(sumW ns, true)])[i]? = some (w, true) := by rw [List.getElem?_append_left hil]; exact hs
        have hc : 2 ≤ cf (l' ++ [(sumW ns, true)]) := by
          rw [cf_snoc]
          have := cf_set hs
          omega
        exact i4 hc i w hi1
/-- The sums of merges that always join the least ones. -/
inductive MsL (q : Nat) : List (Nat × Bool) → List (List (Nat × Nat)) → Prop
  | nil {l : List (Nat × Bool)} : cf l = 1 → MsL q l []
  | cons {l l' : List (Nat × Bool)} {ns : List (Nat × Nat)} {ms : List (List (Nat × Nat))} : Tk ns l l' → ns.length = q → (∀ x ∈ ns, ∀ b ∈ fw l', x.2 ≤ b) → MsL q (l' ++ [(sumW ns, true)]) ms → MsL q l (ns :: ms)
theorem MsL.ms {q : Nat} {l : List (Nat × Bool)} {ms : List (List (Nat × Nat))} (h : MsL q l ms) : Ms q l ms := by
  induction h with
  | nil h => exact .nil h
  | cons h1 h2 _ _ ih => exact .cons h1 h2 ih
end Go.Proofs.Gv

namespace Go.Proofs.Gv

def freeI (l : List (Nat × Bool)) (a : Int) : Bool := decide (0 ≤ a) && ((l[a.toNat]?).map (·.2)).getD false
def wAt (l : List (Nat × Bool)) (i : Nat) : Nat := ((l[i]?).map (·.1)).getD 0
theorem freeI_spec {l : List (Nat × Bool)} {a : Int} (h : freeI l a = true) : ∃ i : Nat, a = i ∧ l[i]? = some (wAt l i, true) := by
  unfold freeI at h
  simp only [Bool.and_eq_true, decide_eq_true_eq] at h
  refine ⟨a.toNat, by omega, ?_⟩
  unfold wAt
  cases hl : l[a.toNat]? with
  | none => rw [hl] at h; simp at h
  | some x =>
    obtain ⟨w, f⟩ := x
    rw [hl] at h
    simp at h
    rw [h.2]
    rfl
/-- The two nodes taken, the new one behind. -/
def joinL (l : List (Nat × Bool)) (i j : Nat) : List (Nat × Bool) := (l.set i (wAt l i, false)).set j (wAt l j, false)
/-- Another free node is less than one of the two. -/
def lessB (l : List (Nat × Bool)) (i j : Nat) : Bool := (joinL l i j).any fun x => x.2 && (decide (x.1 < wAt l i) || decide (x.1 < wAt l j))
def okJ (chk : Bool) (l : List (Nat × Bool)) (x : Int × Int) : Bool := decide (x.1 ≠ x.2) && freeI l x.1 && freeI l x.2 && !(chk && lessB l x.1.toNat x.2.toNat)
def nodesJ (l : List (Nat × Bool)) (x : Int × Int) : List (Nat × Nat) := [(x.1.toNat, wAt l x.1.toNat), (x.2.toNat, wAt l x.2.toNat)]
def stepJ (l : List (Nat × Bool)) (x : Int × Int) : List (Nat × Bool) := joinL l x.1.toNat x.2.toNat ++ [(wAt l x.1.toNat + wAt l x.2.toNat, true)]
/-- All merges in turn; none if one does not hold. -/
def joinsJ (chk : Bool) : List (Int × Int) → List (Nat × Bool) → Option (List (List (Nat × Nat)))
  | [], _ => some []
  | x :: r, l => if okJ chk l x then (joinsJ chk r (stepJ l x)).map (nodesJ l x :: ·) else none
theorem okJ_spec {chk : Bool} {l : List (Nat × Bool)} {x : Int × Int} (h : okJ chk l x = true) : ∃ i j : Nat, x = ((i : Int), (j : Int)) ∧ i ≠ j ∧ l[i]? = some (wAt l i, true) ∧ l[j]? = some (wAt l j, true) ∧ (chk = true → lessB l i j = false) := by
  unfold okJ at h
  simp only [Bool.and_eq_true, decide_eq_true_eq, Bool.not_eq_true'] at h
  obtain ⟨⟨⟨h1, h2⟩, h3⟩, h4⟩ := h
  obtain ⟨i, e1, f1⟩ := freeI_spec h2
  obtain ⟨j, e2, f2⟩ := freeI_spec h3
  refine ⟨i, j, by rw [← e1, ← e2], fun e => h1 (by rw [e1, e2, e]), f1, f2, fun hc => ?_⟩
  rw [hc, e1, e2] at h4
  simpa using h4
theorem joinL_tk {l : List (Nat × Bool)} {i j : Nat} (hne : i ≠ j) (h1 : l[i]? = some (wAt l i, true)) (h2 : l[j]? = some (wAt l j, true)) : Tk [(i, wAt l i), (j, wAt l j)] l (joinL l i j) :=
  .cons h1 (.cons (by rw [List.getElem?_set_ne hne]; exact h2) (.nil _))
theorem joinsJ_ms {chk : Bool} : ∀ (r : List (Int × Int)) (l : List (Nat × Bool)) (ms : List (List (Nat × Nat))), joinsJ chk r l = some ms → r.length + 1 = cf l → Ms 2 l ms ∧ (chk = true → MsL 2 l ms) ∧ ms.length = r.length
  | [], l, ms, h, hc => by
    simp only [joinsJ, Option.some.injEq] at h
    subst h
    simp only [List.length_nil] at hc
    exact ⟨.nil (by omega), fun _ => .nil (by omega), rfl⟩
  | x :: r, l, ms, h, hc => by
    unfold joinsJ at h
    split at h
    · rename_i hok
      obtain ⟨ms', h', rfl⟩ := Option.map_eq_some_iff.1 h
      obtain ⟨i, j, rfl, hne, h1, h2, h3⟩ := okJ_spec hok
      have ht := joinL_tk hne h1 h2
      have hcf := ht.took.cf
      simp only [List.length_cons, List.length_nil] at hc hcf
      obtain ⟨a1, a2, a3⟩ := joinsJ_ms r _ ms' h' (by unfold stepJ; rw [cf_snoc]; simp only [Int.toNat_natCast]; omega)
      have e : stepJ l ((i : Int), (j : Int)) = joinL l i j ++ [(sumW [(i, wAt l i), (j, wAt l j)], true)] := by simp [stepJ, sumW]
      rw [e] at a1 a2
      refine ⟨.cons ht rfl a1, fun hk => .cons ht rfl (fun y hy b hb => ?_) (a2 hk), by simp [a3]⟩
      have h4 := h3 hk
      unfold lessB at h4
      rw [List.any_eq_false] at h4
      obtain ⟨m, hm⟩ := mem_fw.1 hb
      have h5 := h4 (b, true) (List.mem_of_getElem? hm)
      simp at h5
      simp only [nodesJ, Int.toNat_natCast, List.mem_cons, List.not_mem_nil, or_false] at hy
      rcases hy with rfl | rfl
      · exact h5.1
      · exact h5.2
    · cases h
/-- Depths by parents: each node that is taken stands one below the node that is made. -/
def parOf (p : Nat) : List (List (Nat × Nat)) → Nat → Option Nat
  | [], _ => none
  | ns :: r, k => if k ∈ ns.map (·.1) then some p else parOf (p + 1) r k
theorem parOf_gt : ∀ (ms : List (List (Nat × Nat))) (p k m : Nat), parOf p ms k = some m → p ≤ m ∧ m < p + ms.length
  | [], _, _, _, h => by cases h
  | ns :: r, p, k, m, h => by
    unfold parOf at h
    split at h
    · simp only [Option.some.injEq] at h
      subst h
      simp only [List.length_cons]
      omega
    · have := parOf_gt r (p + 1) k m h
      simp only [List.length_cons]
      omega
/-- One step up. -/
theorem depR_par : ∀ (ms : List (List (Nat × Nat))) (p : Nat) (d : List Nat), (∀ i, d.getD i 0 = 0) → p + ms.length ≤ d.length → (∀ (a : List (List (Nat × Nat))) (ns : List (Nat × Nat)) (b : List (List (Nat × Nat))), ms = a ++ ns :: b → ∀ x ∈ ns, x.1 < p + a.length) →
    ∀ k, (depR p ms d).getD k 0 = match parOf p ms k with | none => 0 | some m => (depR p ms d).getD m 0 + 1
  | [], p, d, hz, _, _, k => by simp only [depR, parOf]; exact hz k
  | ns :: r, p, d, hz, hd, hlt, k => by
    simp only [List.length_cons] at hd
    have ih := depR_par r (p + 1) d hz (by omega) fun a ns' b e x hx => by
      have := hlt (ns :: a) ns' b (by rw [e]; rfl) x hx
      simp only [List.length_cons] at this
      omega
    have hns : ∀ x ∈ ns, x.1 < p := fun x hx => by have := hlt [] ns r rfl x hx; simpa using this
    have hdl : (depR (p + 1) r d).length = d.length := depR_len _ _ _
    have hat := depStep_at p ns (depR (p + 1) r d) fun x hx => ⟨by have := hns x hx; omega, by have := hns x hx; omega⟩
    have keep : ∀ m, p ≤ m → (depStep p ns (depR (p + 1) r d)).getD m 0 = (depR (p + 1) r d).getD m 0 := fun m hm => by
      rw [hat, if_neg]
      intro h
      obtain ⟨x, hx, e⟩ := List.mem_map.1 h
      have := hns x hx
      omega
    rw [depR]
    unfold parOf
    by_cases hk : k ∈ ns.map (·.1)
    · rw [if_pos hk]
      simp only
      rw [hat, if_pos hk, keep p (Nat.le_refl _)]
    · rw [if_neg hk, hat, if_neg hk, ih k]
      cases hp : parOf (p + 1) r k with
      | none => rfl
      | some m =>
        have := parOf_gt r (p + 1) k m hp
        simp only
        rw [keep m (by omega)]
theorem Ms.lt {q : Nat} {l : List (Nat × Bool)} {ms : List (List (Nat × Nat))} (h : Ms q l ms) : ∀ (a : List (List (Nat × Nat))) (ns : List (Nat × Nat)) (b : List (List (Nat × Nat))), ms = a ++ ns :: b → ∀ x ∈ ns, x.1 < l.length + a.length := by
  induction h with
  | nil _ => intro a ns b e; simp at e
  | @cons l l' ns0 ms hT _ _ ih =>
    intro a ns b e x hx
    cases a with
    | nil =>
      simp only [List.nil_append, List.cons.injEq] at e
      obtain ⟨rfl, rfl⟩ := e
      have := (List.getElem?_eq_some_iff.1 (hT.took.at_ x hx).1).1
      simpa using this
    | cons y a =>
      simp only [List.cons_append, List.cons.injEq] at e
      have := ih a ns b e.2 x hx
      rw [List.length_append, hT.took.size] at this
      simp only [List.length_cons, List.length_nil] at this ⊢
      omega
/-- The weight of a merged node is the sum of the two. -/
theorem Took.len {l l' : List (Nat × Bool)} {ns : List (Nat × Nat)} (h : Took l l' ns) : l'.map (·.1) = l.map (·.1) := by
  apply List.ext_getElem?
  intro i
  rw [List.getElem?_map, List.getElem?_map]
  exact h.wt i
/-- The merges of the tree, as they are handed back, are accepted. -/
def pairsOf (ms : List (List (Nat × Nat))) : List (Int × Int) := ms.map fun ns => match ns with | [a, b] => ((a.1 : Int), (b.1 : Int)) | _ => (0, 0)
end Go.Proofs.Gv

namespace Go.Proofs.Gv
open Go Go.RowKit Go.Maps

theorem VN_inj {x y : Nat} (h : VN x = VN y) : x = y := by
  unfold VN at h
  have : mg x = mg y := by simpa using h
  have := congrArg (fun s => bv s.data.toList) this
  simpa [bv_mg] using this
/-- How an element reads: as a number. -/
noncomputable def RI (v : Value) : Option (DataW Unit × List MemPlace) := open Classical in if h : ∃ z : Nat, v = VN z then some (.lit (.int .i64 (h.choose : Int)), []) else none
theorem RI_mk (z : Nat) : RI (VN z) = some (.lit (.int .i64 (z : Int)), []) := by
  have h : ∃ y : Nat, VN z = VN y := ⟨z, rfl⟩
  unfold RI
  rw [dif_pos h]
  have : h.choose = z := (VN_inj h.choose_spec).symm
  rw [this]
theorem RI_inv {v : Value} {y : DataW Unit × List MemPlace} (h : RI v = some y) : ∃ z : Nat, v = VN z ∧ y = (.lit (.int .i64 (z : Int)), []) := by
  unfold RI at h
  split at h
  · rename_i hz
    exact ⟨hz.choose, hz.choose_spec, (Option.some.inj h).symm⟩
  · cases h
theorem lawI : Keyed Try.prog 3 := int_keyed Try.underlying3
/-- Block b is a map of at most n entries: the free nodes of l. -/
structure MapL (W : World) (b n : Nat) (l : List (Nat × Bool)) : Prop where
  ex : ∃ D : DataW Unit, W.ownsMap Try.prog 3 RI b n D ∧ Maps.size D = cf l ∧ (∀ x : Int, Maps.has D (.int .i64 x) = freeI l x) ∧ ∀ (i v : Nat), l[i]? = some (v, true) → ∀ zd, D.atKey (.int .i64 (i : Int)) zd = .lit (.int .i64 (v : Int))
theorem MapL.kept {W W' : World} {b n : Nat} {l : List (Nat × Bool)} {row : Option Nat} (h : MapL W b n l) (hg : W.grownBy W' row) (hne : some b ≠ row) : MapL W' b n l := by
  obtain ⟨D, h1, h2⟩ := h.ex
  exact ⟨D, h1.kept hg hne, h2⟩
theorem MapL.lt {W : World} {b n : Nat} {l : List (Nat × Bool)} (h : MapL W b n l) : b < W.heap.size := by
  obtain ⟨D, h1, h2⟩ := h.ex
  exact h1.lt
theorem Below.grows {W W' : World} (h : Below W.heap.size W W') : W.grownBy W' none := ⟨h.os, h.tape, h.output, h.size, fun i hi _ => h.block i hi⟩
theorem MapL.below {W W' : World} {b n : Nat} {l : List (Nat × Bool)} (h : MapL W b n l) (hb : Below W.heap.size W W') : MapL W' b n l := h.kept (Below.grows hb) (by simp)
end Go.Proofs.Gv
