/- Maps as functions of their keys. -/
import Derived.Maps.RangeWalk
import Derived.Maps.OwnSet
import Derived.Maps.OwnOps
import Derived.Below
import Derived.Test.YtglgiofjgfbfgaaLplP
import Derived.Test.YtglgiofjgfbfgaaHcosP
import Derived.Test.YtglgiofjgfbfgaaHmeqP
import Derived.Test.YtglgiofjgfbfgaaLawP
import Derived.Test.YtglgiofjgfbfgaaFront
import Derived.Lib.AppendZeros
import Derived.Deep.Slices
set_option linter.unusedSimpArgs false
set_option linter.unusedVariables false
namespace Go.Proofs.Gv
open Go Go.RowKit Go.Maps

/-- Block b is a map of at most n entries, sz of them now: what stands at each key. -/
structure KM (P : Program) (k : TypeId) (R : Value → Option (DataW Unit × List MemPlace)) {κ : Type} (kl : κ → Lit) (W : World) (b n sz : Nat) (f : κ → Option (DataW Unit)) : Prop where
  ex : ∃ D : DataW Unit, W.ownsMap P k R b n D ∧ Maps.size D = sz ∧ (∀ x, Maps.has D (kl x) = (f x).isSome) ∧ ∀ x d, f x = some d → ∀ zd, D.atKey (kl x) zd = d
section
variable {P : Program} {k t e : TypeId} {R : Value → Option (DataW Unit × List MemPlace)} {κ : Type} {kl : κ → Lit} {W W' : World} {b n sz : Nat} {f : κ → Option (DataW Unit)}
theorem KM.kept {row : Option Nat} (h : KM P k R kl W b n sz f) (hg : W.grownBy W' row) (hne : some b ≠ row) : KM P k R kl W' b n sz f := by
  obtain ⟨D, h1, h2⟩ := h.ex
  exact ⟨D, h1.kept hg hne, h2⟩
theorem KM.below (h : KM P k R kl W b n sz f) (hb : Below W.heap.size W W') : KM P k R kl W' b n sz f :=
  h.kept (row := none) ⟨hb.os, hb.tape, hb.output, hb.size, fun i hi _ => hb.block i hi⟩ (by simp)
theorem KM.lt (h : KM P k R kl W b n sz f) : b < W.heap.size := by
  obtain ⟨D, h1, h2⟩ := h.ex
  exact h1.lt
theorem KM.mono (h : KM P k R kl W b n sz f) {n' : Nat} (hn : n ≤ n') : KM P k R kl W b n' sz f := by
  obtain ⟨D, h1, h2⟩ := h.ex
  exact ⟨D, h1.mono hn, h2⟩
theorem KM.le (h : KM P k R kl W b n sz f) : sz ≤ n := by
  obtain ⟨D, h1, h2, _⟩ := h.ex
  rw [← h2]; exact h1.size_le
theorem KM.congr {g : κ → Option (DataW Unit)} (h : KM P k R kl W b n sz f) (e : ∀ x, f x = g x) : KM P k R kl W b n sz g := by
  obtain rfl : f = g := funext e
  exact h
theorem KM.made (W : World) : KM P k R kl (W.alloc (.map #[] 0)) W.heap.size 0 0 (fun _ => none) :=
  ⟨.map [], World.ownsMap_made W P k R, rfl, fun x => rfl, fun x d h => (by cases h)⟩
theorem KM.len (h : KM P k R kl W b n sz f) (ht : P.underlying t = some (.map k e)) (ty : TypeId) : (Builtin.len_ #[t] ty #[.map (some b)]).run P W = .ok (.int .i64 sz) W := by
  obtain ⟨D, h1, h2, _⟩ := h.ex
  rw [← h2]; exact h1.len ht ty
theorem KM.ne (inj : ∀ x y, kl x = kl y → x = y) {x y : κ} (h : y ≠ x) : kl y ≠ kl x := fun e => h (inj _ _ e)
theorem KM.put [DecidableEq κ] (h : KM P k R kl W b n sz f) (K : Keyed P k) (inj : ∀ x y, kl x = kl y → x = y) (isk : ∀ x, WideAt.IsKeyLit (kl x)) (ht : P.underlying t = some (.map k e)) (hn : n < maxLen) {x : κ} {key val : Value} {d : DataW Unit} {ps : List MemPlace} (hkey : keyOf P k key = some (kl x)) (hv : R val = some (d, ps)) :
    ∃ w', (Instr.mapUpdate t (.map (some b)) key val).run P W = .ok () w' ∧ KM P k R kl w' b (n + 1) (if (f x).isSome then sz else sz + 1) (fun y => if y = x then some d else f y) ∧ W.grownBy w' (some b) := by
  obtain ⟨D, h1, h2, h3, h4⟩ := h.ex
  obtain ⟨w', hr, ho, hg⟩ := h1.update K ht hn hkey hv
  refine ⟨w', hr, ⟨_, ho, ?_, fun y => ?_, fun y d' hy zd => ?_⟩, hg⟩
  · rw [Go.Maps.size_put (h1.tidy K), h3, h2]
  · by_cases hyx : y = x
    · subst hyx; rw [has_put_same h1.isMap (isk y), if_pos rfl]; rfl
    · rw [has_put_other (KM.ne inj hyx), h3, if_neg hyx]
  · by_cases hyx : y = x
    · subst hyx; rw [if_pos rfl] at hy; rw [atKey_put_same h1.isMap (isk y)]; exact Option.some.inj hy
    · rw [if_neg hyx] at hy; rw [atKey_put_other (KM.ne inj hyx)]; exact h4 y d' hy zd
theorem KM.drop [DecidableEq κ] (h : KM P k R kl W b n sz f) (K : Keyed P k) (inj : ∀ x y, kl x = kl y → x = y) (ht : P.underlying t = some (.map k e)) {x : κ} {key : Value} (hkey : keyOf P k key = some (kl x)) (ty : TypeId) :
    ∃ w', (Builtin.delete_ #[t, k] ty #[.map (some b), key]).run P W = .ok (.tuple #[]) w' ∧ KM P k R kl w' b n (if (f x).isSome then sz - 1 else sz) (fun y => if y = x then none else f y) ∧ W.grownBy w' (some b) := by
  obtain ⟨D, h1, h2, h3, h4⟩ := h.ex
  obtain ⟨w', hr, ho, hg⟩ := h1.drop K ht hkey ty
  refine ⟨w', hr, ⟨_, ho, ?_, fun y => ?_, fun y d' hy zd => ?_⟩, hg.grown⟩
  · have := size_del (k := kl x) (h1.tidy K)
    rw [h3, h2] at this
    split at this <;> simp_all <;> omega
  · by_cases hyx : y = x
    · subst hyx; rw [has_del_same, if_pos rfl]; rfl
    · rw [has_del_other (KM.ne inj hyx), h3, if_neg hyx]
  · by_cases hyx : y = x
    · subst hyx; rw [if_pos rfl] at hy; cases hy
    · rw [if_neg hyx] at hy; rw [atKey_del_other (KM.ne inj hyx)]; exact h4 y d' hy zd
/-- A range under way: what is left of the keys. -/
structure KR (P : Program) (k : TypeId) (R : Value → Option (DataW Unit × List MemPlace)) {κ : Type} (kl : κ → Lit) (W : World) (b r n : Nat) (f : κ → Option (DataW Unit)) (left : κ → Bool) (cnt : Nat) : Prop where
  ex : ∃ (D : DataW Unit) (lf : Lit → Bool), W.ranges P k R b r n D lf cnt ∧ (∀ x, lf (kl x) = left x) ∧ (∀ x, Maps.has D (kl x) = (f x).isSome) ∧ (∀ x d, f x = some d → ∀ zd, D.atKey (kl x) zd = d) ∧ (∀ x, left x = true → (f x).isSome = true)
theorem KR.kept {r cnt : Nat} {left : κ → Bool} {row : Option Nat} (h : KR P k R kl W b r n f left cnt) (hg : W.grownBy W' row) (hb : some b ≠ row) (hr : some r ≠ row) : KR P k R kl W' b r n f left cnt := by
  obtain ⟨D, lf, h1, h2⟩ := h.ex
  exact ⟨D, lf, h1.kept hg hb hr, h2⟩
theorem KR.below {r cnt : Nat} {left : κ → Bool} (h : KR P k R kl W b r n f left cnt) (hb : Below W.heap.size W W') : KR P k R kl W' b r n f left cnt :=
  h.kept (row := none) ⟨hb.os, hb.tape, hb.output, hb.size, fun i hi _ => hb.block i hi⟩ (by simp) (by simp)
theorem KR.lt {r cnt : Nat} {left : κ → Bool} (h : KR P k R kl W b r n f left cnt) : r < W.heap.size ∧ b < W.heap.size := by
  obtain ⟨D, lf, h1, h2⟩ := h.ex
  exact ⟨h1.lt, h1.owns.lt⟩
theorem KM.range (h : KM P k R kl W b n sz f) (K : Keyed P k) (ht : P.underlying t = some (.map k e)) :
    ∃ w', (Instr.range t (.map (some b))).run P W = .ok (.pointer (some ⟨W.heap.size, 0, none⟩)) w' ∧ KR P k R kl w' b W.heap.size n f (fun x => (f x).isSome) sz ∧ W.grownBy w' none ∧ w'.heap.size = W.heap.size + 1 := by
  obtain ⟨D, h1, h2, h3, h4⟩ := h.ex
  obtain ⟨w', r1, r2, r3, r4⟩ := h1.range K ht
  exact ⟨w', r1, ⟨D, _, by rw [h2] at r2; exact r2, h3, h3, h4, fun x hx => hx⟩, r3, r4⟩
theorem KR.next [DecidableEq κ] {r cnt : Nat} {left : κ → Bool} (h : KR P k R kl W b r n f left cnt) (K : Keyed P k) (inj : ∀ x y, kl x = kl y → x = y) (isk : ∀ x, WideAt.IsKeyLit (kl x)) {kv : κ → Value} (inv : ∀ key l, keyOf P k key = some l → ∃ x, key = kv x ∧ l = kl x) (ty : TypeId) :
    (cnt = 0 ∧ (∀ x, left x = false) ∧ (Instr.next (.pointer (some ⟨r, 0, none⟩)) false ty).run P W = .ok (.tuple #[.bool false]) W) ∨
    ∃ x v d ps w' cnt', left x = true ∧ f x = some d ∧ R v = some (d, ps) ∧ (Instr.next (.pointer (some ⟨r, 0, none⟩)) false ty).run P W = .ok (.tuple #[.bool true, kv x, v]) w' ∧ keyOf P k (kv x) = some (kl x) ∧
      KR P k R kl w' b r n f (fun y => left y && decide (y ≠ x)) cnt' ∧ cnt' < cnt ∧ W.grownBy w' (some r) ∧ w'.heap.size = W.heap.size ∧ (Instr.entry (.pointer (some ⟨r, 0, none⟩))).run P w' = .ok (.tuple #[kv x, v]) w' := by
  obtain ⟨D, lf, h1, h2, h3, h4, h5⟩ := h.ex
  rcases h1.next K ty with ⟨e0, e1, e2⟩ | ⟨key, v, l, y, w', cnt', a1, a2, a3, a4, a5, a6, a7, a8, a9, a10⟩
  · exact .inl ⟨e0, fun x => by rw [← h2]; exact e1 _, e2⟩
  · obtain ⟨x, rfl, rfl⟩ := inv key l a1
    rw [h2] at a2
    have hs := h5 x a2
    obtain ⟨d, hd⟩ := Option.isSome_iff_exists.1 hs
    have hy : y.1 = d := (a4 .nil).symm.trans (h4 x d hd .nil)
    refine .inr ⟨x, v, d, y.2, w', cnt', a2, hd, by rw [a3, ← hy], a5, a1, ⟨D, _, a6, fun z => ?_, h3, h4, fun z hz => ?_⟩, a7, a8, a9, a10⟩
    · rw [h2]
      by_cases hzx : z = x
      · subst hzx; rw [WideAt.sameKey_self (isk z)]; simp
      · have : (kl z).sameKey (kl x) = false := by
          cases hh : (kl z).sameKey (kl x) with
          | false => rfl
          | true => exact absurd (inj _ _ (WideAt.sameKey_eq hh)) hzx
        rw [this]; simp [hzx]
    · simp only [Bool.and_eq_true] at hz
      exact h5 z hz.1
end
end Go.Proofs.Gv

namespace Go.Proofs.Gv
open Go Go.RowKit Go.Maps

/-- A slice value of merges, wherever it lies. -/
def MrgA (W : World) (v : Value) (ps : List (Int × Int)) : Prop := ∃ (a : Option Addr) (c : Nat), v = .slice a ps.length c ∧ ∀ (i : Nat) (x : Value), (mrgV ps)[i]? = some x → ∃ A, a = some A ∧ W.cell? (A.add i) = some x
theorem MrgAt.a {W : World} {v : Value} {ps : List (Int × Int)} (h : MrgAt W v ps) : MrgA W v ps := by
  obtain ⟨a, c, rfl, hat⟩ := h
  refine ⟨a, c, rfl, fun i x hi => ?_⟩
  obtain ⟨g, rfl, hc⟩ := hat i x hi
  refine ⟨_, rfl, ?_⟩
  have e : (⟨g, 0, none⟩ : Addr).add i = ⟨g, i, none⟩ := by unfold Addr.add; by_cases h : i = 0 <;> simp [h]
  rw [e]; exact hc
theorem MrgA.below {W W' : World} {v : Value} {ps : List (Int × Int)} (h : MrgA W v ps) (hb : Below W.heap.size W W') : MrgA W' v ps := by
  obtain ⟨a, c, rfl, hat⟩ := h
  refine ⟨a, c, rfl, fun i x hi => ?_⟩
  obtain ⟨A, rfl, hc⟩ := hat i x hi
  exact ⟨A, rfl, (hb.cell (World.block_lt_of_cell? W _ hc)).trans hc⟩
def fr (l : List (Nat × Bool)) (x : Int) : Option (DataW Unit) := if freeI l x then some (.lit (.bool true)) else none
theorem joinsJ_drop {chk : Bool} {ps : List (Int × Int)} {i : Nat} {x : Int × Int} (h : ps[i]? = some x) (l : List (Nat × Bool)) :
    joinsJ chk (ps.drop i) l = if okJ chk l x then (joinsJ chk (ps.drop (i + 1)) (stepJ l x)).map (nodesJ l x :: ·) else none := by
  obtain ⟨hi, e⟩ := List.getElem?_eq_some_iff.1 h
  rw [List.drop_eq_getElem_cons hi, e]
  rfl
end Go.Proofs.Gv

namespace Go.Proofs.Gv
open Go Go.RowKit Go.Maps

/-- Block g holds these numbers. -/
structure NR (W : World) (g : Nat) (ds : List Nat) : Prop where
  lt : g < W.heap.size
  at_ : ∀ (i d : Nat), ds[i]? = some d → W.cell? ⟨g, i, none⟩ = some (.int .i64 (d : Int))
theorem NR.below {W W' : World} {g : Nat} {ds : List Nat} (h : NR W g ds) (hb : Below W.heap.size W W') : NR W' g ds :=
  ⟨Nat.lt_of_lt_of_le h.lt hb.size, fun i d hi => (hb.cell (p := ⟨g, i, none⟩) h.lt).trans (h.at_ i d hi)⟩
theorem NR.row {W : World} {g c : Nat} {ds : List Nat} (h : NR W g ds) {n : Nat} (hn : n = ds.length) : RowAt W (.slice (some ⟨g, 0, none⟩) n c) (natV ds) := by
  subst hn
  refine ⟨some ⟨g, 0, none⟩, c, by rw [natV_len], fun i x hi => ⟨g, rfl, ?_⟩⟩
  unfold natV at hi
  rw [List.getElem?_map] at hi
  cases hd : ds[i]? with
  | none => rw [hd] at hi; cases hi
  | some k => rw [hd] at hi; cases hi; exact h.at_ i k hd
theorem Sl.take {W : World} {A : Addr} {L : List (Bool × ByteArray)} (h : Sl W (some A) L) (t : Nat) : Sl W (some A) (L.take t) := fun i n s hi => by
  rw [List.getElem?_take] at hi
  split at hi
  · exact h i n s hi
  · cases hi
theorem Sl.drop {W : World} {A : Addr} {L : List (Bool × ByteArray)} (h : Sl W (some A) L) (t : Nat) : Sl W (some (A.add (t * 2))) (L.drop t) := fun i n s hi => by
  rw [List.getElem?_drop] at hi
  obtain ⟨A', e, h1, h2⟩ := h (t + i) n s hi
  cases e
  refine ⟨_, rfl, ?_, ?_⟩
  · rw [Go.Deep.add_add, ← Nat.add_mul]; exact h1
  · rw [Go.Deep.add_add, show t * 2 + (i * 2 + 1) = (t + i) * 2 + 1 by omega]; exact h2
end Go.Proofs.Gv
