/- Maps as functions of their keys. -/
import Derived.Maps.RangeWalk
import Derived.Maps.OwnSet
import Derived.Maps.OwnOps
import Derived.Below
set_option linter.unusedSimpArgs false
set_option linter.unusedVariables false
namespace Go.Proofs.Gv
open Go Go.RowKit Go.Maps

/-- Block b is a map of at most n entries, sz of them now: what stands at each key. -/
structure KM (P : Program) (k : TypeId) (R : Value → Option (DataW Unit × List MemPlace)) {κ : Type} (kl : κ → Lit) (W : World) (b n sz : Nat) (f : κ → Option (DataW Unit)) : Prop where
  ex : ∃ D : DataW Unit, W.ownsMap P k R b n D ∧ Maps.size D = sz ∧ (∀ x, Maps.has D (kl x) = (f x).isSome) ∧ ∀ x d, f x = some d → ∀ zd, D.atKey (kl x) zd = d
section
variable {P : Program} {k t e : TypeId} {R : Value → Option (DataW Unit × List MemPlace)} {κ : Type} {kl : κ → Lit} {W W' : World} {b n sz : Nat} {f : κ → Option (DataW Unit)}
theorem KM.kept {row : Option Nat} (h : KM P k R kl W b n sz f) (hg : W.grownBy W' row) (hne : some b ≠ row) : KM P k R kl W' b n sz f := by
  obtain ⟨D, h1, h2⟩ := h.ex
  exact ⟨D, h1.kept hg hne, h2⟩
theorem KM.below (h : KM P k R kl W b n sz f) (hb : Below W.heap.size W W') : KM P k R kl W' b n sz f :=
  h.kept (row := none) ⟨hb.os, hb.tape, hb.output, hb.size, fun i hi _ => hb.block i hi⟩ (by simp)
theorem KM.lt (h : KM P k R kl W b n sz f) : b < W.heap.size := by
  obtain ⟨D, h1, h2⟩ := h.ex
  exact h1.lt
theorem KM.mono (h : KM P k R kl W b n sz f) {n' : Nat} (hn : n ≤ n') : KM P k R kl W b n' sz f := by
  obtain ⟨D, h1, h2⟩ := h.ex
  exact ⟨D, h1.mono hn, h2⟩
theorem KM.le (h : KM P k R kl W b n sz f) : sz ≤ n := by
  obtain ⟨D, h1, h2, _⟩ := h.ex
  rw [← h2]; exact h1.size_le
theorem KM.congr {g : κ → Option (DataW Unit)} (h : KM P k R kl W b n sz f) (e : ∀ x, f x = g x) : KM P k R kl W b n sz g := by
  obtain rfl : f = g := funext e
  exact h
theorem KM.made (W : World) : KM P k R kl (W.alloc (.map #[] 0)) W.heap.size 0 0 (fun _ => none) :=
  ⟨.map [], World.ownsMap_made W P k R, rfl, fun x => rfl, fun x d h => (by cases h)⟩
theorem KM.len (h : KM P k R kl W b n sz f) (ht : P.underlying t = some (.map k e)) (ty : TypeId) : (Builtin.len_ #[t] ty #[.map (some b)]).run P W = .ok (.int .i64 sz) W := by
  obtain ⟨D, h1, h2, _⟩ := h.ex
  rw [← h2]; exact h1.len ht ty
theorem KM.ne (inj : ∀ x y, kl x = kl y → x = y) {x y : κ} (h : y ≠ x) : kl y ≠ kl x := fun e => h (inj _ _ e)
theorem KM.put [DecidableEq κ] (h : KM P k R kl W b n sz f) (K : Keyed P k) (inj : ∀ x y, kl x = kl y → x = y) (isk : ∀ x, WideAt.IsKeyLit (kl x)) (ht : P.underlying t = some (.map k e)) (hn : n < maxLen) {x : κ} {key val : Value} {d : DataW Unit} {ps : List MemPlace} (hkey : keyOf P k key = some (kl x)) (hv : R val = some (d, ps)) :
    ∃ w', (Instr.mapUpdate t (.map (some b)) key val).run P W = .ok () w' ∧ KM P k R kl w' b (n + 1) (if (f x).isSome then sz else sz + 1) (fun y => if y = x then some d else f y) ∧ W.grownBy w' (some b) := by
  obtain ⟨D, h1, h2, h3, h4⟩ := h.ex
  obtain ⟨w', hr, ho, hg⟩ := h1.update K ht hn hkey hv
  refine ⟨w', hr, ⟨_, ho, ?_, fun y => ?_, fun y d' hy zd => ?_⟩, hg⟩
  · rw [Go.Maps.size_put (h1.tidy K), h3, h2]
  · by_cases hyx : y = x
    · subst hyx; rw [has_put_same h1.isMap (isk y), if_pos rfl]; rfl
    · rw [has_put_other (KM.ne inj hyx), h3, if_neg hyx]
  · by_cases hyx : y = x
    · subst hyx; rw [if_pos rfl] at hy; rw [atKey_put_same h1.isMap (isk y)]; exact Option.some.inj hy
    · rw [if_neg hyx] at hy; rw [atKey_put_other (KM.ne inj hyx)]; exact h4 y d' hy zd
theorem KM.drop [DecidableEq κ] (h : KM P k R kl W b n sz f) (K : Keyed P k) (inj : ∀ x y, kl x = kl y → x = y) (ht : P.underlying t = some (.map k e)) {x : κ} {key : Value} (hkey : keyOf P k key = some (kl x)) (ty : TypeId) :
    ∃ w', (Builtin.delete_ #[t, k] ty #[.map (some b), key]).run P W = .ok (.tuple #[]) w' ∧ KM P k R kl w' b n (if (f x).isSome then sz - 1 else sz) (fun y => if y = x then none else f y) ∧ W.grownBy w' (some b) := by
  obtain ⟨D, h1, h2, h3, h4⟩ := h.ex
  obtain ⟨w', hr, ho, hg⟩ := h1.drop K ht hkey ty
  refine ⟨w', hr, ⟨_, ho, ?_, fun y => ?_, fun y d' hy zd => ?_⟩, hg.grown⟩
  · have := size_del (k := kl x) (h1.tidy K)
    rw [h3, h2] at this
    split at this <;> simp_all <;> omega
  · by_cases hyx : y = x
    · subst hyx; rw [has_del_same, if_pos rfl]; rfl
    · rw [has_del_other (KM.ne inj hyx), h3, if_neg hyx]
  · by_cases hyx : y = x
    · subst hyx; rw [if_pos rfl] at hy; cases hy
    · rw [if_neg hyx] at hy; rw [atKey_del_other (KM.ne inj hyx)]; exact h4 y d' hy zd
/-- A range under way: what is left of the keys. -/
structure KR (P : Program) (k : TypeId) (R : Value → Option (DataW Unit × List MemPlace)) {κ : Type} (kl : κ → Lit) (W : World) (b r n : Nat) (f : κ → Option (DataW Unit)) (left : κ → Bool) (cnt : Nat) : Prop where
  ex : ∃ (D : DataW Unit) (lf : Lit → Bool), W.ranges P k R b r n D lf cnt ∧ (∀ x, lf (kl x) = left x) ∧ (∀ x, Maps.has D (kl x) = (f x).isSome) ∧ (∀ x d, f x = some d → ∀ zd, D.atKey (kl x) zd = d) ∧ (∀ x, left x = true → (f x).isSome = true)
theorem KR.kept {r cnt : Nat} {left : κ → Bool} {row : Option Nat} (h : KR P k R kl W b r n f left cnt) (hg : W.grownBy W' row) (hb : some b ≠ row) (hr : some r ≠ row) : KR P k R kl W' b r n f left cnt := by
  obtain ⟨D, lf, h1, h2⟩ := h.ex
  exact ⟨D, lf, h1.kept hg hb hr, h2⟩
theorem KR.below {r cnt : Nat} {left : κ → Bool} (h : KR P k R kl W b r n f left cnt) (hb : Below W.heap.size W W') : KR P k R kl W' b r n f left cnt :=
  h.kept (row := none) ⟨hb.os, hb.tape, hb.output, hb.size, fun i hi _ => hb.block i hi⟩ (by simp) (by simp)
theorem KR.lt {r cnt : Nat} {left : κ → Bool} (h : KR P k R kl W b r n f left cnt) : r < W.heap.size ∧ b < W.heap.size := by
  obtain ⟨D, lf, h1, h2⟩ := h.ex
  exact ⟨h1.lt, h1.owns.lt⟩
theorem KM.range (h : KM P k R kl W b n sz f) (K : Keyed P k) (ht : P.underlying t = some (.map k e)) :
    ∃ w', (Instr.range t (.map (some b))).run P W = .ok (.pointer (some ⟨W.heap.size, 0, none⟩)) w' ∧ KR P k R kl w' b W.heap.size n f (fun x => (f x).isSome) sz ∧ W.grownBy w' none ∧ w'.heap.size = W.heap.size + 1 := by
  obtain ⟨D, h1, h2, h3, h4⟩ := h.ex
  obtain ⟨w', r1, r2, r3, r4⟩ := h1.range K ht
  exact ⟨w', r1, ⟨D, _, by rw [h2] at r2; exact r2, h3, h3, h4, fun x hx => hx⟩, r3, r4⟩
end
end Go.Proofs.Gv
