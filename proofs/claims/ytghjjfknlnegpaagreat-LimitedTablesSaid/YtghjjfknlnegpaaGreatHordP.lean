/- Arguments that are slices of integers, opened. -/
import Derived.Test.YtghjjfknlnegpaaGreatHslP
import Derived.Deep.Slices
import Derived.Deep.Fields
import Derived.ChangeSame
import Derived.Carry
import Derived.OpenShut
import Derived.Lib.SmallJoins
import Derived.Test.YtghjjfknlnegpaaGreatShelf
import Derived.LoopN
set_option linter.unusedSimpArgs false
set_option linter.unusedVariables false
namespace Go.Proofs.Gv
open Go Go.RowKit Go.ChangeShapes Go.WideShapes Go.Deep
section
variable {H : Type} {enc : TypeId × Value → H} {P : Program} {w : World} {base : Nat} {spare : Nat → Bool} {held : Bool}
theorem open_slice_fields {t e : TypeId} {fs : Array Field} {fuel : Nat} {cs : List Value} {x : DataW H × List MemPlace} (ht : P.underlying t = some (.slice e)) (he : P.underlying e = some (.struct fs))
    (hone : oneCellFields P fs = true) (hC : P.cellsOf e = fs.size) (h : DataW.trod enc P w base spare held fuel t cs = some x) :
    (cs = [.slice none 0 0] ∧ x = (.nil, [])) ∨
    ∃ (a : Addr) (len cap m : Nat) (D : Nat → DataW H) (Pl : Nat → List MemPlace), cs = [.slice (some a) len cap] ∧ base ≤ a.block ∧ len ≤ cap ∧ cap ≤ maxLen ∧ m = (if spare a.block then cap else len) ∧
      x = (.slice ((List.range len).map D) ((List.range (m - len)).map fun j => D (len + j)), MemPlace.row a (m * fs.size) ++ (List.range m).flatMap Pl) ∧
      ∀ i, i < m → ∃ (ys : List (DataW H × List MemPlace)) (n : Nat), D i = .agg (ys.map (·.1)) ∧ Pl i = ys.flatMap (·.2) ∧ ys.length = fs.size ∧
        ∀ (j : Nat) (f : Field), fs[j]? = some f → ∃ (v : Value) (y : DataW H × List MemPlace), w.cell? (a.add (i * fs.size + j)) = some v ∧ ys[j]? = some y ∧ DataW.trod enc P w base spare held n f.type [v] = some y := by
  rcases open_slice ht h with h0 | ⟨a, len, cap, m, n, D, Pl, hcs, hb, hl, hm, hmm, hx, hi⟩
  · exact .inl h0
  · refine .inr ⟨a, len, cap, m, D, Pl, hcs, hb, hl, hm, hmm, by rw [hC] at hx; exact hx, fun i him => ?_⟩
    obtain ⟨cs', hc, ht'⟩ := hi i him
    rw [hC] at hc
    obtain ⟨ys, n', hn', hy, hlen, hyl, hf⟩ := DataW.trod_struct he ht'
    obtain ⟨_, hcl, hat⟩ := World.cells?_some hc
    simp only [Prod.mk.injEq] at hy
    refine ⟨ys, n', hy.1, hy.2, hyl, fun j f hj => ?_⟩
    obtain ⟨ho, hk⟩ := hone_of hone j f hj
    have hjl : j < fs.size := (Array.getElem?_eq_some_iff.1 hj).1
    have hcell := hat j hjl
    have hv : cs'[j]? = some (cs'[j]'(by omega)) := List.getElem?_eq_getElem (by omega)
    have h1 := hf j f hj
    rw [ho, hk] at h1
    have hone' : (cs'.drop j).take 1 = [cs'[j]'(by omega)] := by
      rw [List.drop_eq_getElem_cons (by omega)]
      rfl
    rw [hone'] at h1
    have hys : ys[j]? = some (ys[j]'(by omega)) := List.getElem?_eq_getElem (by omega)
    refine ⟨_, _, ?_, hys, h1.trans hys⟩
    rw [← Go.Deep.add_add, hcell, hv]
end
/-- A list out of what is known at each index. -/
theorem list_of {α : Type} [Inhabited α] {n : Nat} {R : Nat → α → Prop} (h : ∀ i, i < n → ∃ x, R i x) : ∃ L : List α, L.length = n ∧ ∀ (i : Nat) (x : α), L[i]? = some x → R i x := by
  induction n with
  | zero => exact ⟨[], rfl, fun i x hi => by simp at hi⟩
  | succ n ih =>
    obtain ⟨L, hl, hr⟩ := ih fun i hi => h i (by omega)
    obtain ⟨x, hx⟩ := h n (by omega)
    refine ⟨L ++ [x], by simp [hl], fun i y hi => ?_⟩
    rcases Nat.lt_or_ge i n with h1 | h1
    · rw [List.getElem?_append_left (by omega)] at hi; exact hr i y hi
    · have : i = n := by
        have := (List.getElem?_eq_some_iff.1 hi).1
        simp at this; omega
      subst this
      rw [List.getElem?_append_right (by omega), hl, Nat.sub_self] at hi
      cases hi
      exact hx
theorem laid : laidOutB Tryz.prog = true := by kernel_rfl
set_option maxRecDepth 100000 in
theorem open_Ints {H : Type} {enc : TypeId × Value → H} {W : World} {r : Reach} {b0 : Nat} {v : Value} {d : DataW H} {p : List MemPlace} (hval : Value.okWide Tryz.prog W r b0 22 v)
    (h : DataW.Trod enc Tryz.prog W 0 (fun _ => true) true 22 v d p) :
    ∃ (a : Option Addr) (L : List (Bool × ByteArray)) (cap : Nat), v = .slice a L.length cap ∧ L.length ≤ maxLen ∧ (∀ x ∈ L, x.2.size ≤ maxLen) ∧ Sl W a L ∧ (a = none → L = [] ∧ cap = 0) ∧ L.length ≤ cap ∧ cap ≤ maxLen := by
  obtain ⟨a, len, cap, rfl⟩ := okWide_slice Tryz.underlying22 hval
  obtain ⟨fuel, hf⟩ := h
  rcases open_slice_fields Tryz.underlying22 Tryz.underlying29 (by kernel_rfl) (by kernel_rfl) hf with ⟨hcs, -⟩ | ⟨A, len', cap', m, D, Pl, hcs, -, hl, hm, hmm, -, hi⟩
  · simp [Value.cells] at hcs
    obtain ⟨rfl, rfl, rfl⟩ := hcs
    exact ⟨none, [], 0, rfl, Nat.zero_le _, fun x hx => (by cases hx), fun i n s hi => (by simp at hi), fun _ => ⟨rfl, rfl⟩, Nat.le_refl _, Nat.zero_le _⟩
  · simp [Value.cells] at hcs
    obtain ⟨rfl, rfl, rfl⟩ := hcs
    simp only [if_true] at hmm
    have key : ∀ i, i < len → ∃ x : Bool × ByteArray, (W.cell? (A.add (i * 2)) = some (.bool x.1) ∧ W.cell? (A.add (i * 2 + 1)) = some (.string x.2)) ∧ x.2.size ≤ maxLen := fun i hil => by
      obtain ⟨ys, n, -, -, -, hf⟩ := hi i (by omega)
      obtain ⟨v0, y0, c0, -, t0⟩ := hf 0 _ rfl
      obtain ⟨v1, y1, c1, -, t1⟩ := hf 1 _ rfl
      obtain ⟨b0, e0, -⟩ := DataW.trod_bool Tryz.underlying4 t0
      obtain ⟨s0, e1, -, w0⟩ := DataW.trod_string Tryz.underlying9 t1
      simp at e0 e1
      subst e0 e1
      exact ⟨(b0, s0), ⟨c0, c1⟩, w0⟩
    obtain ⟨L, hL, hR⟩ := list_of key
    refine ⟨some A, L, cap, by rw [hL], by omega, fun x hx => ?_, fun i n s hi => ?_, fun e => (by cases e), by omega, by omega⟩
    · obtain ⟨i, hi⟩ := List.getElem?_of_mem hx
      exact (hR i x hi).2
    · exact ⟨A, rfl, (hR i _ hi).1⟩
end Go.Proofs.Gv

namespace Go.Proofs.Gv
open Go Go.RowKit Go.ChangeShapes Go.WideShapes Go.Deep

/-- A row of numbers of 32 bits. -/
def USl (W : World) (a : Option Addr) (L : List Nat) : Prop := ∀ (i x : Nat), L[i]? = some x → ∃ A, a = some A ∧ W.cell? (A.add i) = some (.int .u32 (x : Int))
theorem USl.below {W W' : World} {a : Option Addr} {L : List Nat} (h : USl W a L) (hb : Below W.heap.size W W') : USl W' a L := fun i x hi => by
  obtain ⟨A, e, hc⟩ := h i x hi
  exact ⟨A, e, (hb.cell (World.block_lt_of_cell? _ _ hc)).trans hc⟩
end Go.Proofs.Gv

namespace Go.Proofs.Gv

/-- Index x put into a row of indices that stands in reverse, greater weights first, behind equal ones. -/
def insR (W : Nat → Nat) (x : Nat) : List Nat → List Nat
  | [] => [x]
  | y :: r => if W y < W x then y :: insR W x r else x :: y :: r
def ordR (W : Nat → Nat) : Nat → List Nat
  | 0 => []
  | n + 1 => insR W n (ordR W n)
/-- The indices of weights, greater weights first. -/
def ordL (Ws : List Nat) : List Nat := (ordR (Ws.getD · 0) Ws.length).reverse
theorem insR_len (W : Nat → Nat) (x : Nat) : ∀ l, (insR W x l).length = l.length + 1
  | [] => rfl
  | y :: r => by
    unfold insR
    split
    · rw [List.length_cons, insR_len W x r, List.length_cons]
    · rfl
theorem ordR_len (W : Nat → Nat) : ∀ n, (ordR W n).length = n
  | 0 => rfl
  | n + 1 => by unfold ordR; rw [insR_len, ordR_len W n]
theorem ordL_len (Ws : List Nat) : (ordL Ws).length = Ws.length := by unfold ordL; rw [List.length_reverse, ordR_len]
theorem insR_mem (W : Nat → Nat) (x y : Nat) : ∀ l, y ∈ insR W x l ↔ y = x ∨ y ∈ l
  | [] => by simp [insR]
  | z :: r => by
    unfold insR
    split
    · rw [List.mem_cons, insR_mem W x y r, List.mem_cons]
      constructor
      · rintro (h | h | h)
        · exact .inr (.inl h)
        · exact .inl h
        · exact .inr (.inr h)
      · rintro (h | h | h)
        · exact .inr (.inl h)
        · exact .inl h
        · exact .inr (.inr h)
    · rw [List.mem_cons]
theorem ordR_mem (W : Nat → Nat) (y : Nat) : ∀ n, y ∈ ordR W n ↔ y < n
  | 0 => by simp [ordR]
  | n + 1 => by unfold ordR; rw [insR_mem, ordR_mem W y n]; omega
theorem ordL_lt {Ws : List Nat} {y : Nat} (h : y ∈ ordL Ws) : y < Ws.length := (ordR_mem _ y _).1 (List.mem_reverse.1 h)
theorem insR_nodup (W : Nat → Nat) (x : Nat) : ∀ l : List Nat, x ∉ l → l.Nodup → (insR W x l).Nodup
  | [], _, _ => by simp [insR]
  | y :: r, hx, hn => by
    rw [List.nodup_cons] at hn
    unfold insR
    split
    · rw [List.nodup_cons, insR_mem]
      refine ⟨?_, insR_nodup W x r (fun h => hx (List.mem_cons_of_mem _ h)) hn.2⟩
      rintro (h | h)
      · exact hx (h ▸ List.mem_cons_self ..)
      · exact hn.1 h
    · rw [List.nodup_cons]
      exact ⟨hx, List.nodup_cons.2 hn⟩
theorem ordR_nodup (W : Nat → Nat) : ∀ n, (ordR W n).Nodup
  | 0 => List.nodup_nil
  | n + 1 => by unfold ordR; exact insR_nodup W n _ (fun h => absurd ((ordR_mem W n n).1 h) (by omega)) (ordR_nodup W n)
theorem ordL_nodup (Ws : List Nat) : (ordL Ws).Nodup := by unfold ordL; exact List.pairwise_reverse.2 ((ordR_nodup _ _).imp fun h => h.symm)
/-- Where the walk from the end stands still. -/
theorem insR_at {W : Nat → Nat} {x : Nat} : ∀ (R : List Nat) (m : Nat), m ≤ R.length → (∀ j y, j < m → R[j]? = some y → W y < W x) → (∀ y, R[m]? = some y → ¬ W y < W x) → insR W x R = R.take m ++ x :: R.drop m
  | [], m, hm, _, _ => by
    obtain rfl : m = 0 := by simpa using hm
    rfl
  | z :: r, 0, _, _, h => by
    unfold insR
    rw [if_neg (h z rfl)]
    rfl
  | z :: r, m + 1, hm, h1, h2 => by
    unfold insR
    rw [if_pos (h1 0 z (by omega) rfl), insR_at r m (by simpa using hm) (fun j y hj hy => h1 (j + 1) y (by omega) hy) (fun y hy => h2 y hy)]
    rfl
/-- The lesser one of two costs; none: there is no room. -/
def lsrO : Option Nat → Option Nat → Option Nat
  | o, none => o
  | none, some x => some x
  | some o, some x => if x < o then some x else some o
theorem lsrO_ss (o x : Nat) : lsrO (some o) (some x) = if x < o then some x else some o := rfl
/-- The least of f 0 .. f (m - 1). -/
def leastF (f : Nat → Option Nat) : Nat → Option Nat
  | 0 => none
  | m + 1 => lsrO (leastF f m) (f m)
theorem lsrO_some {o x : Option Nat} (h : o ≠ none ∨ x ≠ none) : lsrO o x ≠ none := by
  cases o <;> cases x <;> simp [lsrO] at h ⊢
  split <;> simp
theorem leastF_some {f : Nat → Option Nat} {p : Nat} (hp : f p ≠ none) : ∀ m, p < m → leastF f m ≠ none
  | 0, h => by omega
  | m + 1, h => by
    unfold leastF
    by_cases e : p = m
    · subst e; exact lsrO_some (.inr hp)
    · exact lsrO_some (.inl (leastF_some hp m (by omega)))
/-- The least one is one of them. -/
theorem leastF_at {f : Nat → Option Nat} : ∀ m, 0 < m → ∃ p, p < m ∧ f p = leastF f m
  | 0, h => by omega
  | m + 1, _ => by
    unfold leastF
    cases hx : f m with
    | none =>
      by_cases h0 : m = 0
      · subst h0; exact ⟨0, by omega, by rw [hx]; rfl⟩
      · obtain ⟨p, h1, h2⟩ := leastF_at (f := f) m (by omega)
        exact ⟨p, by omega, by rw [h2]; cases leastF f m <;> rfl⟩
    | some x =>
      cases ho : leastF f m with
      | none => exact ⟨m, by omega, by rw [hx]; rfl⟩
      | some o =>
        by_cases hlt : x < o
        · exact ⟨m, by omega, by rw [hx, lsrO_ss]; rw [if_pos hlt]⟩
        · by_cases h0 : m = 0
          · subst h0; cases ho
          · obtain ⟨p, h1, h2⟩ := leastF_at (f := f) m (by omega)
            exact ⟨p, by omega, by rw [h2, ho]; rw [lsrO_ss]; rw [if_neg hlt]⟩
/-- The least cost of the ordered weights from place i on, where k nodes are free, r levels above the last one. -/
def tb (O : List Nat) (n : Nat) : Nat → Nat → Nat → Option Nat
  | 0, k, i => if i < n then (if k < n - i then none else some 0) else some 0
  | r + 1, k, i => if i < n then leastF (fun p => (tb O n r (min (2 * (k - p)) n) (i + p)).map ((O.drop (i + p)).sum + ·)) (min k (n - i) + 1) else some 0
/-- The same, if p weights have their places here. -/
def plc (O : List Nat) (n r k i p : Nat) : Option Nat := (tb O n r (min (2 * (k - p)) n) (i + p)).map ((O.drop (i + p)).sum + ·)
theorem tb_succ (O : List Nat) {n r k i : Nat} (h : i < n) : tb O n (r + 1) k i = leastF (plc O n r k i) (min k (n - i) + 1) := by
  unfold tb
  rw [if_pos h]
  rfl
theorem tb_end (O : List Nat) (n r k : Nat) : tb O n r k n = some 0 := by
  cases r <;> (unfold tb; rw [if_neg (Nat.lt_irrefl n)])
theorem tb_some (O : List Nat) (n : Nat) : ∀ r k i, i ≤ n → n - i ≤ k * 2 ^ r → tb O n r k i ≠ none
  | 0, k, i, _, h => by
    unfold tb
    split
    · rw [if_neg (by simp at h; omega)]; simp
    · simp
  | r + 1, k, i, hi, h => by
    by_cases hin : i < n
    · rw [tb_succ O hin]
      refine leastF_some (p := 0) ?_ _ (by omega)
      have : tb O n r (min (2 * (k - 0)) n) (i + 0) ≠ none := by
        refine tb_some O n r _ _ hi ?_
        rw [Nat.pow_succ] at h
        by_cases hk : 2 * (k - 0) ≤ n
        · rw [Nat.min_eq_left hk]
          rw [Nat.mul_comm (2 ^ r) 2, ← Nat.mul_assoc, Nat.mul_comm k 2] at h
          exact h
        · rw [Nat.min_eq_right (by omega)]
          have : n * 1 ≤ n * 2 ^ r := Nat.mul_le_mul_left _ (Nat.pow_pos (by decide))
          simp only [Nat.add_zero]
          omega
      unfold plc
      cases hx : tb O n r (min (2 * (k - 0)) n) (i + 0) with
      | none => exact absurd hx this
      | some x => simp
    · unfold tb
      rw [if_neg hin]
      simp
/-- The greatest number up to p that gives v. -/
def dnP (f : Nat → Option Nat) (v : Option Nat) : Nat → Nat
  | 0 => 0
  | p + 1 => if f (p + 1) = v then p + 1 else dnP f v p
theorem dnP_le (f : Nat → Option Nat) (v : Option Nat) : ∀ p, dnP f v p ≤ p
  | 0 => Nat.le_refl _
  | p + 1 => by
    unfold dnP
    split
    · exact Nat.le_refl _
    · have := dnP_le f v p; omega
theorem dnP_is {f : Nat → Option Nat} {v : Option Nat} {q : Nat} (hq : f q = v) : ∀ p, q ≤ p → f (dnP f v p) = v
  | 0, h => by
    obtain rfl : q = 0 := by omega
    exact hq
  | p + 1, h => by
    unfold dnP
    split
    · rename_i h; exact h
    · rename_i h2
      refine dnP_is hq p ?_
      rcases Nat.lt_or_ge p q with h3 | h3
      · obtain rfl : q = p + 1 := by omega
        exact absurd hq h2
      · exact h3
/-- How many weights have their places at a depth. -/
def pnum (O : List Nat) (n : Nat) : Nat → Nat → Nat → Nat
  | 0, k, i => min k (n - i)
  | r + 1, k, i => dnP (plc O n r k i) (tb O n (r + 1) k i) (min k (n - i))
theorem pnum_zero (O : List Nat) (n k i : Nat) : pnum O n 0 k i = min k (n - i) := rfl
theorem pnum_succ (O : List Nat) (n r k i : Nat) : pnum O n (r + 1) k i = dnP (plc O n r k i) (tb O n (r + 1) k i) (min k (n - i)) := rfl
/-- The lengths of the ordered weights from place i on. -/
def lenG (O : List Nat) (n : Nat) : Nat → Nat → Nat → Nat → List Nat
  | 0, j, k, i => List.replicate (pnum O n 0 k i) j
  | r + 1, j, k, i => if i < n then List.replicate (pnum O n (r + 1) k i) j ++ lenG O n r (j + 1) (min (2 * (k - pnum O n (r + 1) k i)) n) (i + pnum O n (r + 1) k i) else []
theorem pnum_le (O : List Nat) (n r k i : Nat) : pnum O n r k i ≤ min k (n - i) := by
  cases r with
  | zero => exact Nat.le_refl _
  | succ r => exact dnP_le _ _ _
theorem pnum_is (O : List Nat) {n r k i : Nat} (h : i < n) : plc O n r k i (pnum O n (r + 1) k i) = tb O n (r + 1) k i := by
  obtain ⟨p, h1, h2⟩ := leastF_at (f := plc O n r k i) (min k (n - i) + 1) (by omega)
  unfold pnum
  rw [← tb_succ O h] at h2
  exact dnP_is h2 _ (by omega)
theorem pnum_some (O : List Nat) {n r k i : Nat} (h : i < n) (hs : tb O n (r + 1) k i ≠ none) : tb O n r (min (2 * (k - pnum O n (r + 1) k i)) n) (i + pnum O n (r + 1) k i) ≠ none := by
  rw [← pnum_is O h] at hs
  unfold plc at hs
  intro e
  rw [e] at hs
  exact hs rfl
theorem pnum_last (O : List Nat) {n k i : Nat} (h : i < n) (hs : tb O n 0 k i ≠ none) : pnum O n 0 k i = n - i := by
  unfold tb at hs
  rw [if_pos h] at hs
  split at hs
  · exact absurd rfl hs
  · rw [pnum_zero]; omega
theorem lenG_len (O : List Nat) (n : Nat) : ∀ r j k i, i ≤ n → tb O n r k i ≠ none → (lenG O n r j k i).length = n - i
  | 0, j, k, i, hi, hs => by
    unfold lenG
    rw [List.length_replicate]
    by_cases h : i < n
    · exact pnum_last O h hs
    · have := pnum_le O n 0 k i; omega
  | r + 1, j, k, i, hi, hs => by
    unfold lenG
    split
    · rename_i h
      have h1 := pnum_le O n (r + 1) k i
      rw [List.length_append, List.length_replicate, lenG_len O n r _ _ _ (by omega) (pnum_some O h hs)]
      omega
    · simp; omega
/-- Values put at places, one behind the other. -/
def putA (out : List Nat) : List Nat → List Nat → List Nat
  | o :: os, g :: gs => putA (out.set o g) os gs
  | _, _ => out
/-- The weights in their order. -/
def owL (Ws : List Nat) : List Nat := (ordL Ws).map (Ws.getD · 0)
theorem owL_len (Ws : List Nat) : (owL Ws).length = Ws.length := by unfold owL; rw [List.length_map, ordL_len]
/-- The limited lengths, and their cost. -/
def limL (Ws : List Nat) (most : Nat) : List Nat := putA (List.replicate Ws.length 0) (ordL Ws) (lenG (owL Ws) Ws.length most 0 1 0)
def limC (Ws : List Nat) (most : Nat) : Nat := (tb (owL Ws) Ws.length most 1 0).getD 0
end Go.Proofs.Gv

namespace Go.Proofs.Gv

/-- The row while index i stands m places ahead of its own. -/
def insSt (W : Nat → Nat) (n i m : Nat) : List Nat := ((ordR W i).drop m).reverse ++ i :: (((ordR W i).take m).reverse ++ (List.range n).drop (i + 1))
/-- The row ahead of a round. -/
def outSt (W : Nat → Nat) (n i : Nat) : List Nat := (ordR W i).reverse ++ (List.range n).drop i
theorem out_start (W : Nat → Nat) {n : Nat} (h : 1 ≤ n) : outSt W n 1 = List.range n := by
  show [0] ++ (List.range n).drop 1 = _
  obtain ⟨k, rfl⟩ : ∃ k, n = k + 1 := ⟨n - 1, by omega⟩
  rw [List.range_succ_eq_map]
  rfl
theorem out_ins (W : Nat → Nat) {n i : Nat} (h : i < n) : outSt W n i = insSt W n i 0 := by
  unfold outSt insSt
  rw [List.drop_zero, List.take_zero, List.reverse_nil, List.nil_append, List.drop_eq_getElem_cons (by rw [List.length_range]; exact h), List.getElem_range]
theorem out_end (W : Nat → Nat) (n : Nat) : outSt W n n = (ordR W n).reverse := by
  unfold outSt
  rw [List.drop_of_length_le (by rw [List.length_range]; exact Nat.le_refl _), List.append_nil]
theorem ins_len (W : Nat → Nat) {n i m : Nat} (h : i < n) (hm : m ≤ i) : (insSt W n i m).length = n := by
  unfold insSt
  rw [List.length_append, List.length_reverse, List.length_drop, ordR_len, List.length_cons, List.length_append, List.length_reverse, List.length_take, ordR_len, List.length_drop, List.length_range]
  omega
/-- Where it stands still. -/
theorem ins_stop (W : Nat → Nat) {n i m : Nat} (hm : m ≤ i) (h1 : ∀ j y, j < m → (ordR W i)[j]? = some y → W y < W i) (h2 : ∀ y, (ordR W i)[m]? = some y → ¬ W y < W i) : insSt W n i m = outSt W n (i + 1) := by
  have e : ordR W (i + 1) = insR W i (ordR W i) := rfl
  unfold insSt outSt
  rw [e, insR_at _ m (by rw [ordR_len]; exact hm) h1 h2]
  simp
/-- A step ahead. -/
theorem ins_step (W : Nat → Nat) {n i m y : Nat} (h : (ordR W i)[m]? = some y) : ∃ A D, insSt W n i m = A ++ y :: i :: D ∧ A.length + m + 1 = i ∧ insSt W n i (m + 1) = A ++ i :: y :: D := by
  have hl := (List.getElem?_eq_some_iff.1 h).1
  rw [ordR_len] at hl
  refine ⟨((ordR W i).drop (m + 1)).reverse, ((ordR W i).take m).reverse ++ (List.range n).drop (i + 1), ?_, ?_, ?_⟩
  · unfold insSt
    obtain ⟨hl2, rfl⟩ := List.getElem?_eq_some_iff.1 h
    rw [List.drop_eq_getElem_cons hl2, List.reverse_cons, List.append_assoc]
    rfl
  · rw [List.length_reverse, List.length_drop, ordR_len]; omega
  · unfold insSt
    rw [List.take_add_one, h]
    simp
end Go.Proofs.Gv

namespace Go.Proofs.Gv
open Go Go.RowKit

/-- An integer that is not negative, as it is written. -/
def VN (z : Nat) : Value := .agg #[.bool false, .string (mg z)]
def ord2 (c d : Int) : Int := if c ≠ 0 then c else d
set_option maxRecDepth 100000 in
theorem or_any (g : Nat) (c d : Int) (w : World) (h : BC w g [.int .i64 c, .int .i64 d]) :
    Calls Tryz.prog 112 #[.slice (some ⟨g, 0, none⟩) 2 2] w fun e w' => e = .returned (.int .i64 (ord2 c d)) ∧ w' = w := by
  have h0 := h.at 0 (.int .i64 c) rfl
  have h1 := h.at 1 (.int .i64 d) rfl
  by_cases hc : c = 0
  · subst hc
    by_cases hd : d = 0
    · subst hd
      go_enter Tryz.func112, Tryz.ntmps112
      go_wp2_with fail
      refine wp_loop_rounds 3 ?_
      rw [rounds_succ]
      go_wp2_with fail
      rw [rounds_succ]
      go_wp2_with fail
      rw [rounds_succ]
      go_wp2
      go_ret
      exact ⟨rfl, rfl⟩
    · have hb : (d == 0) = false := by simpa using hd
      have hb2 : (d != 0) = true := by simpa using hd
      have HD := Lib.hid hd
      clear hd
      go_enter Tryz.func112, Tryz.ntmps112
      go_wp2_with fail
      refine wp_loop_rounds 2 ?_
      rw [rounds_succ]
      go_wp2_with fail
      rw [rounds_succ]
      go_wp2
      go_ret
      exact ⟨rfl, rfl⟩
  · have hb : (c == 0) = false := by simpa using hc
    have hb2 : (c != 0) = true := by simpa using hc
    have HD := Lib.hid (show ord2 c d = c by unfold ord2; rw [if_pos hc])
    clear hc
    go_enter Tryz.func112, Tryz.ntmps112
    go_wp2_with fail
    refine wp_loop_rounds 1 ?_
    rw [rounds_succ]
    go_wp2
    go_ret
    exact ⟨by rw [HD.out]; rfl, rfl⟩
theorem VN_rp {z : Nat} {N : Nat} (h : z < 2 ^ N) (hN : N ≤ 7900000) : Rp false (mg z) (z : Int) := by
  have := Rp.V (z := (z : Int)) N (by rwa [Int.natAbs_natCast]) hN
  rwa [Int.natAbs_natCast, show sgn (z : Int) = false from decide_eq_false (by omega)] at this
theorem ord_lt (u w : Nat) (i k : Int) : decide (ord2 (cmpI (u : Int) (w : Int)) (Lib.compareInt i k) < 0) = (decide (u < w) || (decide (u = w) && decide (i < k))) := by
  unfold ord2 cmpI
  by_cases h1 : u < w
  · rw [if_pos (show (u : Int) < w by omega)]; simp [h1]
  · by_cases h2 : u = w
    · subst h2
      simp only [Int.lt_irrefl, if_false, ne_eq, not_true_eq_false]
      unfold Lib.compareInt
      by_cases h3 : i < k
      · simp [h3]
      · by_cases h4 : k < i
        · simp [h3, h4]
        · simp [h3, h4]
    · rw [if_neg (show ¬ (u : Int) < w by omega), if_pos (show (w : Int) < u by omega)]
      simp [h1, h2]
set_option maxRecDepth 100000 in
set_option maxHeartbeats 1600000 in
theorem byWeight_any (i k : Int) (u v : Nat) (N : Nat) (hu : u < 2 ^ N) (hv : v < 2 ^ N) (hN : N ≤ 1000000) (w : World) :
    Calls Tryz.prog 98 #[.int .i64 i, .int .i64 k, VN u, VN v] w fun e w' => e = .returned (.int .i64 (ord2 (cmpI (u : Int) (v : Int)) (Lib.compareInt i k))) ∧ Below w.heap.size w w' := by
  have HU := Lib.hid (VN_rp hu (by omega))
  have HV := Lib.hid (VN_rp hv (by omega))
  clear hu hv
  unfold VN
  obtain ⟨c, hc⟩ : ∃ c, cmpI (u : Int) (v : Int) = c := ⟨_, rfl⟩
  obtain ⟨d, hd⟩ : ∃ d, Lib.compareInt i k = d := ⟨_, rfl⟩
  have HC := Lib.hid (fun W => cCmp HU.out HV.out W)
  have HD := Lib.hid (fun W => Tryz.cmp_Compare_int i k W)
  rw [hc, hd]
  rw [hc] at HC
  rw [hd] at HD
  clear hc hd
  go_enter Tryz.func98, Tryz.ntmps98
  have HB := Lib.hid (((Below.refl w.heap.size w).alloc (Nat.le_refl _) (.cells #[.bool false, .string (mg u)] 29)).alloc (by simp) (.cells #[.bool false, .string (mg v)] 29))
  have HX := Lib.hid ((BC.new w w.heap.size #[.bool false, .string (mg u)] 29 rfl).alloc (.cells #[.bool false, .string (mg v)] 29))
  have HY := Lib.hid (BC.new (w.alloc (.cells #[.bool false, .string (mg u)] 29)) (w.heap.size + 1) #[.bool false, .string (mg v)] 29 (by simp))
  have x0 := HX.out.at 0 (.bool false) rfl
  have x1 := HX.out.at 1 (.string (mg u)) rfl
  have y0 := HY.out.at 0 (.bool false) rfl
  have y1 := HY.out.at 1 (.string (mg v)) rfl
  go_wp2_with fail
  refine (HC.out _).mono ?_
  rintro e w1 ⟨rfl, hb⟩
  have HB1 := Lib.hid (bstep HB.out hb)
  clear hb x0 x1 y0 y1 HX HY HB
  go_wp2_with fail
  refine (HD.out _).mono ?_
  rintro e w2 ⟨rfl, rfl⟩
  have HZ := Lib.hid (BC.new w2 w2.heap.size #[.int .i64 c, .int .i64 d] 3 rfl)
  go_wp2_with fail
  refine (or_any _ _ _ _ HZ.out).mono ?_
  rintro e w3 ⟨rfl, rfl⟩
  go_wp2
  go_ret
  exact ⟨rfl, HB1.out.alloc HB1.out.size _⟩
end Go.Proofs.Gv
