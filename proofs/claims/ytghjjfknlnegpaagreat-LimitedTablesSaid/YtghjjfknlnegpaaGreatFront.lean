/- A law for a region that draws its order: loads, calls that make memory, and variables made: one walk serves every order. -/
import Derived.Barred
import Derived.Deep.Quiet
import Derived.StillTail
import Derived.Below
import Derived.Test.YtghjjfknlnegpaaGreatChecked
import Derived.Laws.Tables
import Derived.KernelRfl
import Derived.Test.YtghjjfknlnegpaaGreatLawKit
set_option linter.unusedSimpArgs false
set_option linter.unusedVariables false
namespace Go.Proofs.Gv
open Go Go.RowKit

/-- The operation that makes a variable: its type, and what it holds at first. -/
def madeOf (zv : TypeId → Value) (o : Oper) : Option (TypeId × Operand) :=
  match o.op with
  | .box T x => some (T, x)
  | .alloc T => some (T, .const (zv T))
  | _ => none
/-- The same operation, its value moved and no variable made. -/
def unmade (zv : TypeId → Value) (o : Oper) : Oper :=
  match o.op with
  | .box _ x => { o with op := .move x }
  | .alloc T => { o with op := .move (.const (zv T)) }
  | .store _ (.tmp d) x => { o with dst := some d, op := .move x }
  | _ => o
def madeD (o : Oper) : Bool := match o.op with | .box _ _ => true | .alloc _ => true | _ => false
def stD (o : Oper) : Bool := match o.op with | .store _ _ _ => true | _ => false
def waitsB (ops : Array Oper) (j i : Nat) : Bool :=
  match ops[j]? with
  | some oj => oj.after.any fun e => Region.binds .any e && e.on == i
  | none => false
def kept (v : Value) : Frame := { fn := 0, tmps := #[v], todo := [.inRegion #[{ dst := some 0, op := .move (.const undef), type := 0, pos := "", after := #[], guard := none }] [], .code (.refuse "")], defers := [], mode := .run, kind := .normal }
section
variable {P : Program} {zv : TypeId → Value}

theorem madeD_some {o : Oper} {T : TypeId} {y : Operand} (h : madeOf zv o = some (T, y)) : madeD o = true := by
  unfold madeOf at h
  unfold madeD
  split at h <;> simp_all
theorem unmade_dst {o : Oper} (h : stD o = false) : (unmade zv o).dst = o.dst := by
  unfold stD at h
  unfold unmade
  split <;> simp_all
theorem unmade_guard (o : Oper) : (unmade zv o).guard = o.guard := by unfold unmade; split <;> rfl

structure FrontSpec (zv : TypeId → Value) (n sz : Nat) (ops : Array Oper) : Prop where
  sel : ∀ (j : Nat) (o : Oper) cs b, ops[j]? = some o → o.op ≠ .select cs b
  le : n ≤ ops.size
  back : ∀ (i : Nat) (o : Oper), ops[i]? = some o → ∀ e ∈ o.after, Region.binds .any e = true → e.on < i
  gd : ∀ (i : Nat) (o : Oper) g b, ops[i]? = some o → o.guard = some (g, b) → g < i ∧ ∀ og, ops[g]? = some og → stD og = false
  made : ∀ (i : Nat) (o : Oper), i < n → ops[i]? = some o → madeD o = true → o.guard = none ∧ ∃ d, o.dst = some d ∧ d < sz ∧ ∀ (j : Nat) (y : Oper), j < n → ops[j]? = some y → d ∉ (unmade zv y).looksAt ops ∧ (i ≠ j → y.dst ≠ some d)
  store : ∀ (i : Nat) (o : Oper) T a x, i < n → ops[i]? = some o → o.op = .store T a x → ∃ d, a = .tmp d ∧ o.guard = none ∧ o.dst = none ∧
    (∃ j y, j < i ∧ ops[j]? = some y ∧ y.op = .alloc T ∧ y.dst = some d ∧ waitsB ops i j = true) ∧ ∀ (k : Nat) (z : Oper) T' x', k < n → i ≠ k → ops[k]? = some z → z.op ≠ .store T' (.tmp d) x'
  tail : ∀ i, n ≤ i → i < ops.size → ∀ j, j < i → ∃ k, k ≤ i ∧ j < k ∧ waitsB ops k j = true
/-- A world that lies behind B, below block m as it was. -/
structure Clm (m : Nat) (B : World) where
  x : World
  h : Below m B x

/-- The frame and the world of the run, and the frame of the walk. -/
structure Rel (zv : TypeId → Value) (ops : Array Oper) (n base sz : Nat) (listed : Array Bool) (γ : Nat → Nat) (a' a : Act) (w : World) : Prop where
  size : a.tmps.size = a'.tmps.size
  big : a.tmps.size = sz
  dfr : a.defers = a'.defers
  same : ∀ x, (∀ (i : Nat) (o : Oper), i < n → ops[i]? = some o → madeD o = true → o.dst ≠ some x) → a.tmps[x]? = a'.tmps[x]?
  made : ∀ (i : Nat) (o : Oper) T y d, i < n → ops[i]? = some o → madeOf zv o = some (T, y) → o.dst = some d → listed.getD i false = true →
    a.tmps[d]? = some (.pointer (some ⟨γ i, 0, none⟩)) ∧ base ≤ γ i ∧ γ i < w.heap.size ∧ w.heap[γ i]? = some (.cells (a'.tmps.getD d undef).cells T (0, 0))
  inj : ∀ (i j : Nat) (o p : Oper), i < n → j < n → ops[i]? = some o → ops[j]? = some p → madeD o = true → madeD p = true → listed.getD i false = true → listed.getD j false = true → γ i = γ j → i = j

variable {ops : Array Oper} {n base sz : Nat}

theorem Rel.guard {listed : Array Bool} {γ : Nat → Nat} {a' a : Act} {w : World} (r : Rel zv ops n base sz listed γ a' a w) (hs : FrontSpec zv n sz ops) {opf : Array Oper}
    (hf : ∀ i, i < n → opf[i]? = (ops[i]?).map (unmade zv))
 {j : Nat} {o : Oper} (hj : j < n) (ho : ops[j]? = some o) :
    Region.wanted o (yielded ops a.tmps) = Region.wanted (unmade zv o) (yielded opf a'.tmps) := by
  unfold Region.wanted
  rw [unmade_guard]
  cases hg : o.guard with
  | none => rfl
  | some gw =>
    obtain ⟨g, want⟩ := gw
    have hgj := (hs.gd j o g want ho hg).1
    have hy : yielded ops a.tmps g = yielded opf a'.tmps g := by
      unfold yielded
      rw [hf g (by omega)]
      cases hog : ops[g]? with
      | none => rfl
      | some og =>
        have hgst := (hs.gd j o g want ho hg).2 og hog
        simp only [Option.bind_some, Option.map_some, unmade_dst hgst]
        cases ht : og.dst with
        | none => rfl
        | some t =>
          have : a.tmps[t]? = a'.tmps[t]? := r.same t fun i oi hi hoi hm hd => by
            obtain ⟨-, d, hd', -, hall⟩ := hs.made i oi hi hoi hm
            have : d = t := Option.some.inj (hd'.symm.trans hd)
            subst this
            exact (hall j o hj ho).1 (List.mem_append_right _ (by simp [unmade_guard, hg, hog, ht]))
          simp only [Option.bind_some, this]
    simp only [hy]

theorem getElem?_put (a : Act) (d : Option Tmp) (v : Value) (x : Nat) : (a.put d v).tmps[x]? = if d = some x ∧ x < a.tmps.size then some v else a.tmps[x]? := by
  cases d with
  | none => simp [Act.put]
  | some d =>
    simp only [Act.put, Array.getElem?_setIfInBounds, Option.some.injEq]
    by_cases h : d = x
    · subst h
      by_cases h' : d < a.tmps.size
      · simp [h']
      · simp [h']
    · simp [h]
theorem size_put (a : Act) (d : Option Tmp) (v : Value) : (a.put d v).tmps.size = a.tmps.size := by
  cases d <;> simp [Act.put]
theorem defers_put (a : Act) (d : Option Tmp) (v : Value) : (a.put d v).defers = a.defers := by
  cases d <;> rfl

/-- An operation that makes nothing. -/
theorem Rel.step {listed : Array Bool} {γ : Nat → Nat} {a' a : Act} {w w' : World} (r : Rel zv ops n base sz listed γ a' a w) (hs : FrontSpec zv n sz ops) {j : Nat} {o : Oper} (hj : j < n) (ho : ops[j]? = some o)
    (hm : madeD o = false) (hb : Below w.heap.size w w') (v : Value) : Rel zv ops n base sz (listed.setIfInBounds j true) γ (a'.put o.dst v) (a.put o.dst v) w' := by
  have back : ∀ (i : Nat) (oi : Oper), ops[i]? = some oi → madeD oi = true → (listed.setIfInBounds j true).getD i false = true → listed.getD i false = true ∧ i ≠ j := fun i oi hoi hmi hl => by
    have hij : i ≠ j := fun e => by subst e; rw [Option.some.inj (hoi.symm.trans ho), hm] at hmi; cases hmi
    rw [getD_set_ne false (Ne.symm hij)] at hl
    exact ⟨hl, hij⟩
  refine ⟨by rw [size_put, size_put]; exact r.size, by rw [size_put]; exact r.big, by rw [defers_put, defers_put]; exact r.dfr, fun x hx => ?_, fun i oi T y d hi hoi hmi hd hl => ?_, fun i k oi ok hi hk hoi hok hmi hmk hli hlk he => ?_⟩
  · rw [getElem?_put, getElem?_put, r.same x hx, r.size]
  · have hmd := madeD_some hmi
    obtain ⟨hl', hij⟩ := back i oi hoi hmd hl
    obtain ⟨h1, h2, h3, h4⟩ := r.made i oi T y d hi hoi hmi hd hl'
    obtain ⟨-, d', hd', -, hall⟩ := hs.made i oi hi hoi hmd
    have : d = d' := Option.some.inj (hd.symm.trans hd')
    subst this
    have hne := (hall j o hj ho).2 hij
    refine ⟨by rw [getElem?_put, if_neg (fun h => hne h.1)]; exact h1, h2, Nat.lt_of_lt_of_le h3 hb.size, ?_⟩
    rw [hb.block _ h3, h4, Array.getD_eq_getD_getElem?, Array.getD_eq_getD_getElem?, getElem?_put, if_neg (fun h => hne h.1)]
  · exact r.inj i k oi ok hi hk hoi hok hmi hmk (back i oi hoi hmi hli).1 (back k ok hok hmk hlk).1 he

/-- A world whose block g holds these cells. -/
def setRow (w : World) (g : Nat) (cs : Array Value) (T : TypeId) : World := { w with heap := w.heap.setIfInBounds g (.cells cs T (0, 0)) }
theorem setRow_same (w : World) (g : Nat) (cs : Array Value) (T : TypeId) (h : g < w.heap.size) : (setRow w g cs T).heap[g]? = some (.cells cs T (0, 0)) := by
  simp [setRow, h]
theorem setRow_other (w : World) (g k : Nat) (cs : Array Value) (T : TypeId) (h : g ≠ k) : (setRow w g cs T).heap[k]? = w.heap[k]? := by
  simp [setRow, Array.getElem?_setIfInBounds_ne h]
/-- One that stores into what was made. -/
theorem Rel.store {listed : Array Bool} {γ : Nat → Nat} {a' a : Act} {w : World} (r : Rel zv ops n base sz listed γ a' a w) (hs : FrontSpec zv n sz ops) {j i : Nat} {o y : Oper} (hj : j < n) (ho : ops[j]? = some o)
    (hm : madeD o = false) (hi : i < n) (hy : ops[i]? = some y) {T : TypeId} {d : Tmp} (hym : y.op = .alloc T) (hyd : y.dst = some d) (hli : listed.getD i false = true) (v : Value) :
    Rel zv ops n base sz (listed.setIfInBounds j true) γ (a'.put (some d) v) a (setRow w (γ i) v.cells T) := by
  have hmy : madeOf zv y = some (T, .const (zv T)) := by unfold madeOf; rw [hym]
  obtain ⟨-, d0, hd0, hdz, hall⟩ := hs.made i y hi hy (madeD_some hmy)
  obtain rfl : d0 = d := Option.some.inj (hd0.symm.trans hyd)
  obtain ⟨g1, g2, g3, g4⟩ := r.made i y T _ d0 hi hy hmy hyd hli
  have back : ∀ (i : Nat) (oi : Oper), ops[i]? = some oi → madeD oi = true → (listed.setIfInBounds j true).getD i false = true → listed.getD i false = true := fun i oi hoi hmi hl => by
    have hij : i ≠ j := fun e => by subst e; rw [Option.some.inj (hoi.symm.trans ho), hm] at hmi; cases hmi
    rw [getD_set_ne false (Ne.symm hij)] at hl
    exact hl
  refine ⟨by rw [size_put]; exact r.size, r.big, by rw [defers_put]; exact r.dfr, fun x hx => ?_, fun k ok T' y' d' hk hok hmk hd' hl => ?_, fun k l ok ol hk hl hok hol hmk hml hlk hll he => ?_⟩
  · have : d0 ≠ x := fun e => hx i y hi hy (madeD_some hmy) (by rw [hyd, e])
    rw [getElem?_put, if_neg (fun h => this (Option.some.inj h.1))]
    exact r.same x hx
  · have hmd := madeD_some hmk
    have hl' := back k ok hok hmd hl
    obtain ⟨h1, h2, h3, h4⟩ := r.made k ok T' y' d' hk hok hmk hd' hl'
    by_cases hki : k = i
    · subst hki
      obtain rfl := Option.some.inj (hok.symm.trans hy)
      obtain rfl : d' = d0 := Option.some.inj (hd'.symm.trans hyd)
      obtain ⟨rfl, -⟩ : T' = T ∧ y' = .const (zv T) := by have := hmk.symm.trans hmy; simpa using this
      refine ⟨h1, h2, by simpa [setRow] using h3, ?_⟩
      rw [setRow_same _ _ _ _ h3, Array.getD_eq_getD_getElem?, getElem?_put, if_pos ⟨rfl, by rw [← r.size, r.big]; exact hdz⟩]
      rfl
    · have hg : γ i ≠ γ k := fun e => hki (r.inj i k y ok hi hk hy hok (madeD_some hmy) hmd hli hl' e).symm
      have hdd : d0 ≠ d' := fun e => by
        have := (hall k ok hk hok).2 (Ne.symm hki)
        rw [hd', e] at this
        exact this rfl
      refine ⟨h1, h2, by simpa [setRow] using h3, ?_⟩
      rw [setRow_other _ _ _ _ _ hg, h4, Array.getD_eq_getD_getElem?, Array.getD_eq_getD_getElem?, getElem?_put, if_neg (fun h => hdd (Option.some.inj h.1))]
  · exact r.inj k l ok ol hk hl hok hol hmk hml (back k ok hok hmk hlk) (back l ol hol hml hll) he

end
end Go.Proofs.Gv

namespace Go.Proofs.Gv
open Go Go.RowKit

theorem Clm.old {m : Nat} {W B : World} (hm : W.heap.size ≤ m) (hB : Below W.heap.size W B) (u : Clm m B) : Below W.heap.size W u.x := hB.trans (u.h.mono hm)
theorem Clm.cell {m : Nat} {W B : World} (hm : W.heap.size ≤ m) (hB : Below W.heap.size W B) (u : Clm m B) {b o : Nat} {v : Value} (h : W.cell? ⟨b, o, none⟩ = some v) : u.x.cell? ⟨b, o, none⟩ = some v := by
  have hl : b < W.heap.size := World.block_lt_of_cell? W ⟨b, o, none⟩ h
  exact ((u.old hm hB).cell (p := ⟨b, o, none⟩) hl).trans h
end Go.Proofs.Gv

namespace Go.Proofs.Gv
open Go Go.RowKit

end Go.Proofs.Gv
