/- Merges that come in, plainly: which are taken, and their depths; depths by parents. -/
import Derived.Test.YtdflafnfaccciaaHufSP
import Derived.Test.YtdflafnfaccciaaHordP
import Derived.Maps.RangeWalk
import Derived.Maps.OwnSet
import Derived.Maps.OwnOps
set_option linter.unusedSimpArgs false
set_option linter.unusedVariables false
namespace Go.Proofs.Gv

def freeI (l : List (Nat × Bool)) (a : Int) : Bool := decide (0 ≤ a) && ((l[a.toNat]?).map (·.2)).getD false
def wAt (l : List (Nat × Bool)) (i : Nat) : Nat := ((l[i]?).map (·.1)).getD 0
theorem freeI_spec {l : List (Nat × Bool)} {a : Int} (h : freeI l a = true) : ∃ i : Nat, a = i ∧ l[i]? = some (wAt l i, true) := by
  unfold freeI at h
  simp only [Bool.and_eq_true, decide_eq_true_eq] at h
  refine ⟨a.toNat, by omega, ?_⟩
  unfold wAt
  cases hl : l[a.toNat]? with
  | none => rw [hl] at h; simp at h
  | some x =>
    obtain ⟨w, f⟩ := x
    rw [hl] at h
    simp at h
    rw [h.2]
    rfl
/-- The two nodes taken, the new one behind. -/
def joinL (l : List (Nat × Bool)) (i j : Nat) : List (Nat × Bool) := (l.set i (wAt l i, false)).set j (wAt l j, false)
/-- Another free node is less than one of the two. -/
def lessB (l : List (Nat × Bool)) (i j : Nat) : Bool := (joinL l i j).any fun x => x.2 && (decide (x.1 < wAt l i) || decide (x.1 < wAt l j))
def okJ (chk : Bool) (l : List (Nat × Bool)) (x : Int × Int) : Bool := decide (x.1 ≠ x.2) && freeI l x.1 && freeI l x.2 && !(chk && lessB l x.1.toNat x.2.toNat)
def nodesJ (l : List (Nat × Bool)) (x : Int × Int) : List (Nat × Nat) := [(x.1.toNat, wAt l x.1.toNat), (x.2.toNat, wAt l x.2.toNat)]
def stepJ (l : List (Nat × Bool)) (x : Int × Int) : List (Nat × Bool) := joinL l x.1.toNat x.2.toNat ++ [(wAt l x.1.toNat + wAt l x.2.toNat, true)]
/-- All merges in turn; none if one does not hold. -/
def joinsJ (chk : Bool) : List (Int × Int) → List (Nat × Bool) → Option (List (List (Nat × Nat)))
  | [], _ => some []
  | x :: r, l => if okJ chk l x then (joinsJ chk r (stepJ l x)).map (nodesJ l x :: ·) else none
theorem okJ_spec {chk : Bool} {l : List (Nat × Bool)} {x : Int × Int} (h : okJ chk l x = true) : ∃ i j : Nat, x = ((i : Int), (j : Int)) ∧ i ≠ j ∧ l[i]? = some (wAt l i, true) ∧ l[j]? = some (wAt l j, true) ∧ (chk = true → lessB l i j = false) := by
  unfold okJ at h
  simp only [Bool.and_eq_true, decide_eq_true_eq, Bool.not_eq_true'] at h
  obtain ⟨⟨⟨h1, h2⟩, h3⟩, h4⟩ := h
  obtain ⟨i, e1, f1⟩ := freeI_spec h2
  obtain ⟨j, e2, f2⟩ := freeI_spec h3
  refine ⟨i, j, by rw [← e1, ← e2], fun e => h1 (by rw [e1, e2, e]), f1, f2, fun hc => ?_⟩
  rw [hc, e1, e2] at h4
  simpa using h4
theorem joinL_tk {l : List (Nat × Bool)} {i j : Nat} (hne : i ≠ j) (h1 : l[i]? = some (wAt l i, true)) (h2 : l[j]? = some (wAt l j, true)) : Tk [(i, wAt l i), (j, wAt l j)] l (joinL l i j) :=
  .cons h1 (.cons (by rw [List.getElem?_set_ne hne]; exact h2) (.nil _))
theorem joinsJ_ms {chk : Bool} : ∀ (r : List (Int × Int)) (l : List (Nat × Bool)) (ms : List (List (Nat × Nat))), joinsJ chk r l = some ms → r.length + 1 = cf l → Ms 2 l ms ∧ (chk = true → MsL 2 l ms) ∧ ms.length = r.length
  | [], l, ms, h, hc => by
    simp only [joinsJ, Option.some.injEq] at h
    subst h
    simp only [List.length_nil] at hc
    exact ⟨.nil (by omega), fun _ => .nil (by omega), rfl⟩
  | x :: r, l, ms, h, hc => by
    unfold joinsJ at h
    split at h
    · rename_i hok
      obtain ⟨ms', h', rfl⟩ := Option.map_eq_some_iff.1 h
      obtain ⟨i, j, rfl, hne, h1, h2, h3⟩ := okJ_spec hok
      have ht := joinL_tk hne h1 h2
      have hcf := ht.took.cf
      simp only [List.length_cons, List.length_nil] at hc hcf
      obtain ⟨a1, a2, a3⟩ := joinsJ_ms r _ ms' h' (by unfold stepJ; rw [cf_snoc]; simp only [Int.toNat_natCast]; omega)
      have e : stepJ l ((i : Int), (j : Int)) = joinL l i j ++ [(sumW [(i, wAt l i), (j, wAt l j)], true)] := by simp [stepJ, sumW]
      rw [e] at a1 a2
      refine ⟨.cons ht rfl a1, fun hk => .cons ht rfl (fun y hy b hb => ?_) (a2 hk), by simp [a3]⟩
      have h4 := h3 hk
      unfold lessB at h4
      rw [List.any_eq_false] at h4
      obtain ⟨m, hm⟩ := mem_fw.1 hb
      have h5 := h4 (b, true) (List.mem_of_getElem? hm)
      simp at h5
      simp only [nodesJ, Int.toNat_natCast, List.mem_cons, List.not_mem_nil, or_false] at hy
      rcases hy with rfl | rfl
      · exact h5.1
      · exact h5.2
    · cases h
/-- The depths of the leaves. -/
def depJ (n : Nat) (ms : List (List (Nat × Nat))) : List Nat := (depR n ms (List.replicate (n + ms.length) 0)).take n
/-- Depths by parents: each node that is taken stands one below the node that is made. -/
def parOf (p : Nat) : List (List (Nat × Nat)) → Nat → Option Nat
  | [], _ => none
  | ns :: r, k => if k ∈ ns.map (·.1) then some p else parOf (p + 1) r k
theorem parOf_gt : ∀ (ms : List (List (Nat × Nat))) (p k m : Nat), parOf p ms k = some m → p ≤ m ∧ m < p + ms.length
  | [], _, _, _, h => by cases h
  | ns :: r, p, k, m, h => by
    unfold parOf at h
    split at h
    · simp only [Option.some.injEq] at h
      subst h
      simp only [List.length_cons]
      omega
    · have := parOf_gt r (p + 1) k m h
      simp only [List.length_cons]
      omega
/-- One step up. -/
theorem depR_par : ∀ (ms : List (List (Nat × Nat))) (p : Nat) (d : List Nat), (∀ i, d.getD i 0 = 0) → p + ms.length ≤ d.length → (∀ (a : List (List (Nat × Nat))) (ns : List (Nat × Nat)) (b : List (List (Nat × Nat))), ms = a ++ ns :: b → ∀ x ∈ ns, x.1 < p + a.length) →
    ∀ k, (depR p ms d).getD k 0 = match parOf p ms k with | none => 0 | some m => (depR p ms d).getD m 0 + 1
  | [], p, d, hz, _, _, k => by simp only [depR, parOf]; exact hz k
  | ns :: r, p, d, hz, hd, hlt, k => by
    simp only [List.length_cons] at hd
    have ih := depR_par r (p + 1) d hz (by omega) fun a ns' b e x hx => by
      have := hlt (ns :: a) ns' b (by rw [e]; rfl) x hx
      simp only [List.length_cons] at this
      omega
    have hns : ∀ x ∈ ns, x.1 < p := fun x hx => by have := hlt [] ns r rfl x hx; simpa using this
    have hdl : (depR (p + 1) r d).length = d.length := depR_len _ _ _
    have hat := depStep_at p ns (depR (p + 1) r d) fun x hx => ⟨by have := hns x hx; omega, by have := hns x hx; omega⟩
    have keep : ∀ m, p ≤ m → (depStep p ns (depR (p + 1) r d)).getD m 0 = (depR (p + 1) r d).getD m 0 := fun m hm => by
      rw [hat, if_neg]
      intro h
      obtain ⟨x, hx, e⟩ := List.mem_map.1 h
      have := hns x hx
      omega
    rw [depR]
    unfold parOf
    by_cases hk : k ∈ ns.map (·.1)
    · rw [if_pos hk]
      simp only
      rw [hat, if_pos hk, keep p (Nat.le_refl _)]
    · rw [if_neg hk, hat, if_neg hk, ih k]
      cases hp : parOf (p + 1) r k with
      | none => rfl
      | some m =>
        have := parOf_gt r (p + 1) k m hp
        simp only
        rw [keep m (by omega)]
theorem Ms.lt {q : Nat} {l : List (Nat × Bool)} {ms : List (List (Nat × Nat))} (h : Ms q l ms) : ∀ (a : List (List (Nat × Nat))) (ns : List (Nat × Nat)) (b : List (List (Nat × Nat))), ms = a ++ ns :: b → ∀ x ∈ ns, x.1 < l.length + a.length := by
  induction h with
  | nil _ => intro a ns b e; simp at e
  | @cons l l' ns0 ms hT _ _ ih =>
    intro a ns b e x hx
    cases a with
    | nil =>
      simp only [List.nil_append, List.cons.injEq] at e
      obtain ⟨rfl, rfl⟩ := e
      have := (List.getElem?_eq_some_iff.1 (hT.took.at_ x hx).1).1
      simpa using this
    | cons y a =>
      simp only [List.cons_append, List.cons.injEq] at e
      have := ih a ns b e.2 x hx
      rw [List.length_append, hT.took.size] at this
      simp only [List.length_cons, List.length_nil] at this ⊢
      omega
/-- The weight of a merged node is the sum of the two. -/
theorem Took.len {l l' : List (Nat × Bool)} {ns : List (Nat × Nat)} (h : Took l l' ns) : l'.map (·.1) = l.map (·.1) := by
  apply List.ext_getElem?
  intro i
  rw [List.getElem?_map, List.getElem?_map]
  exact h.wt i
/-- The merges of the tree, as they are handed back, are accepted. -/
def pairsOf (ms : List (List (Nat × Nat))) : List (Int × Int) := ms.map fun ns => match ns with | [a, b] => ((a.1 : Int), (b.1 : Int)) | _ => (0, 0)
theorem wAt_of {l : List (Nat × Bool)} {i w : Nat} {f : Bool} (h : l[i]? = some (w, f)) : wAt l i = w := by unfold wAt; rw [h]; rfl
end Go.Proofs.Gv

namespace Go.Proofs.Gv
open Go Go.RowKit Go.Maps

theorem VN_inj {x y : Nat} (h : VN x = VN y) : x = y := by
  unfold VN at h
  have : mg x = mg y := by simpa using h
  have := congrArg (fun s => bv s.data.toList) this
  simpa [bv_mg] using this
/-- How an element reads: as a number. -/
noncomputable def RI (v : Value) : Option (DataW Unit × List MemPlace) := open Classical in if h : ∃ z : Nat, v = VN z then some (.lit (.int .i64 (h.choose : Int)), []) else none
theorem RI_mk (z : Nat) : RI (VN z) = some (.lit (.int .i64 (z : Int)), []) := by
  have h : ∃ y : Nat, VN z = VN y := ⟨z, rfl⟩
  unfold RI
  rw [dif_pos h]
  have : h.choose = z := (VN_inj h.choose_spec).symm
  rw [this]
theorem RI_inv {v : Value} {y : DataW Unit × List MemPlace} (h : RI v = some y) : ∃ z : Nat, v = VN z ∧ y = (.lit (.int .i64 (z : Int)), []) := by
  unfold RI at h
  split at h
  · rename_i hz
    exact ⟨hz.choose, hz.choose_spec, (Option.some.inj h).symm⟩
  · cases h
theorem lawI : Keyed Try.prog 3 := int_keyed Try.underlying3
theorem zeroI (w : World) : (zeroValue 34).run Try.prog w = .ok (VN 0) w := by kernel_rfl
/-- Block b is a map of at most n entries: the free nodes of l. -/
structure MapL (W : World) (b n : Nat) (l : List (Nat × Bool)) : Prop where
  ex : ∃ D : DataW Unit, W.ownsMap Try.prog 3 RI b n D ∧ Maps.size D = cf l ∧ (∀ x : Int, Maps.has D (.int .i64 x) = freeI l x) ∧ ∀ (i v : Nat), l[i]? = some (v, true) → ∀ zd, D.atKey (.int .i64 (i : Int)) zd = .lit (.int .i64 (v : Int))
theorem MapL.kept {W W' : World} {b n : Nat} {l : List (Nat × Bool)} {row : Option Nat} (h : MapL W b n l) (hg : W.grownBy W' row) (hne : some b ≠ row) : MapL W' b n l := by
  obtain ⟨D, h1, h2⟩ := h.ex
  exact ⟨D, h1.kept hg hne, h2⟩
theorem MapL.lt {W : World} {b n : Nat} {l : List (Nat × Bool)} (h : MapL W b n l) : b < W.heap.size := by
  obtain ⟨D, h1, h2⟩ := h.ex
  exact h1.lt
theorem Below.grows {W W' : World} (h : Below W.heap.size W W') : W.grownBy W' none := ⟨h.os, h.tape, h.output, h.size, fun i hi _ => h.block i hi⟩
theorem MapL.below {W W' : World} {b n : Nat} {l : List (Nat × Bool)} (h : MapL W b n l) (hb : Below W.heap.size W W') : MapL W' b n l := h.kept (Below.grows hb) (by simp)
end Go.Proofs.Gv
