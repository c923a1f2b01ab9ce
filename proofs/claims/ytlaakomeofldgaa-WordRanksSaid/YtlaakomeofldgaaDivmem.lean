/- The rows of a long division. -/
import Derived.Test.YtlaakomeofldgaaDivideP
import Derived.Test.YtlaakomeofldgaaDivMath2
namespace Go.Proofs.Gv
open Go Go.RowKit

/-- The three rows of a long division. -/
structure DivMem (w wr : World) (gv gq n M K : Nat) (f h : Nat → Nat) (Y : Nat) : Prop where
  u : wr.rowIs w.heap.size 96 n (u32s f)
  v : wr.rowIs gv 96 (M + 1) (u32s (D Y))
  q : wr.rowIs gq 96 K (u32s h)
  b : Below w.heap.size w wr
  l1 : w.heap.size < gv
  l2 : gv < gq
section
variable {w wr : World} {gv gq n M K : Nat} {f f' h h' : Nat → Nat} {Y : Nat}
theorem DivMem.dr {wr' : World} (m : DivMem w wr gv gq n M K f h Y) (hd : Dr wr wr') : DivMem w wr' gv gq n M K f h Y := by
  obtain ⟨k, rfl⟩ := hd
  exact ⟨m.u, m.v, m.q, m.b.trans (Below.dr (Dr.of _ _)), m.l1, m.l2⟩
theorem DivMem.congr (m : DivMem w wr gv gq n M K f h Y) (e : ∀ i, i < n → f i = f' i) : DivMem w wr gv gq n M K f' h Y :=
  ⟨m.u.congr fun i hi => by unfold u32s; rw [e i hi], m.v, m.q, m.b, m.l1, m.l2⟩
theorem DivMem.setU (m : DivMem w wr gv gq n M K f h Y) (i : Nat) (u : Value) (hr : (wr.setCell ⟨w.heap.size, i, none⟩ u).rowIs w.heap.size 96 n (u32s f')) :
    DivMem w (wr.setCell ⟨w.heap.size, i, none⟩ u) gv gq n M K f' h Y :=
  ⟨hr, m.v.setOther (a := ⟨w.heap.size, i, none⟩) (by have := m.l1; show gv ≠ w.heap.size; omega) u, m.q.setOther (a := ⟨w.heap.size, i, none⟩) (by have := m.l1; have := m.l2; show gq ≠ w.heap.size; omega) u,
    m.b.setCell (p := ⟨w.heap.size, i, none⟩) (Nat.le_refl _) u, m.l1, m.l2⟩
theorem DivMem.setQ (m : DivMem w wr gv gq n M K f h Y) (i : Nat) (u : Value) (hr : (wr.setCell ⟨gq, i, none⟩ u).rowIs gq 96 K (u32s h')) :
    DivMem w (wr.setCell ⟨gq, i, none⟩ u) gv gq n M K f h' Y :=
  ⟨m.u.setOther (a := ⟨gq, i, none⟩) (by have := m.l1; have := m.l2; show w.heap.size ≠ gq; omega) u, m.v.setOther (a := ⟨gq, i, none⟩) (by have := m.l2; show gv ≠ gq; omega) u, hr,
    m.b.setCell (p := ⟨gq, i, none⟩) (by have := m.l1; have := m.l2; show w.heap.size ≤ gq; omega) u, m.l1, m.l2⟩
end

section
variable {Y W M T g r : Nat}
theorem wtop_eq (hM : 2 ≤ M) (hT : T = D W M * B32 + D W (M - 1)) : wtop W (M - 2) = T := by
  unfold wtop
  rw [hT, show M - 2 + 2 = M by omega, show M - 2 + 1 = M - 1 by omega]
theorem guess_start (h : Pair Y W (M - 2)) (hM : 2 ≤ M) (hT : T = D W M * B32 + D W (M - 1)) : Guess Y W (M - 2) T (T / D Y (M - 1)) (T % D Y (M - 1)) := by
  have := Guess.start h
  rwa [wtop_eq hM hT, show M - 2 + 1 = M - 1 by omega] at this
theorem guess_next (h : Pair Y W (M - 2)) (hM : 2 ≤ M) (hT : T = D W M * B32 + D W (M - 1)) (k : Guess Y W (M - 2) T g r) (ht : B32 ≤ g ∨ r * B32 + D W (M - 2) < g * D Y (M - 2)) :
    1 ≤ g ∧ T = (g - 1) * D Y (M - 1) + (r + D Y (M - 1)) ∧ W / Y ≤ g - 1 ∧ g - 1 ≤ B32 := by
  rw [← wtop_eq hM hT] at k ⊢
  have := k.next h ht
  rwa [show M - 2 + 1 = M - 1 by omega] at this
theorem guess_test (h : Pair Y W (M - 2)) (hM : 2 ≤ M) (hT : T = D W M * B32 + D W (M - 1)) (k : Guess Y W (M - 2) T g r) (hg : g < B32) (ht : g * D Y (M - 2) ≤ r * B32 + D W (M - 2)) : g * Y ≤ W + Y := by
  rw [← wtop_eq hM hT] at k
  exact k.endTest h hg ht
theorem guess_break (h : Pair Y W (M - 2)) (hM : 2 ≤ M) (hT : T = D W M * B32 + D W (M - 1)) (hk : T = g * D Y (M - 1) + r) (hg : g ≤ B32) (hr : B32 ≤ r) : g * Y ≤ W + Y := by
  refine guess_endBreak (g := g) (r := r) h ?_ hg hr
  rw [wtop_eq hM hT, hk, show M - 2 + 1 = M - 1 by omega]
theorem guess_again (hM : 2 ≤ M) (h : T = g * D Y (M - 1) + r) (h1 : W / Y ≤ g) (h2 : g ≤ B32) (h3 : r < B32) : Guess Y W (M - 2) T g r :=
  ⟨by rw [h, show M - 2 + 1 = M - 1 by omega], h1, by omega, h3⟩
end
theorem DivMem.stepU {w wr : World} {gv gq n M K : Nat} {F G h : Nat → Nat} {Y : Nat} {i : Nat} {V : Int} (m : DivMem w wr gv gq n M K (fun j => if j < i then F j else G j) h Y) (hv : V = (F i : Nat)) :
    DivMem w (wr.setCell ⟨w.heap.size, i, none⟩ (.int .u32 V)) gv gq n M K (fun j => if j < i + 1 then F j else G j) h Y :=
  m.setU i _ (row_step m.u hv)
theorem DivMem.stepQ {w wr : World} {gv gq n M K : Nat} {F G f : Nat → Nat} {Y : Nat} {i : Nat} {V : Int} (m : DivMem w wr gv gq n M K f (fun j => if i + 1 ≤ j then F j else G j) Y) (hv : V = (F i : Nat)) :
    DivMem w (wr.setCell ⟨gq, i, none⟩ (.int .u32 V)) gv gq n M K f (fun j => if i ≤ j then F j else G j) Y :=
  m.setQ i _ (row_down m.q hv)
theorem mod_of_neg {d e : Int} (h : d + 4294967296 = e) (h0 : 0 ≤ e) (h1 : e < 4294967296) : d % 4294967296 = e := by omega
/-- The rows behind a long division. -/
structure TailMem (w wr : World) (gq gr n M K : Nat) (f h r : Nat → Nat) : Prop where
  u : wr.rowIs w.heap.size 96 n (u32s f)
  q : wr.rowIs gq 96 K (u32s h)
  r : wr.rowIs gr 96 M (u32s r)
  b : Below w.heap.size w wr
  l1 : w.heap.size < gq
  l2 : gq < gr
theorem TailMem.dr {w wr wr' : World} {gq gr n M K : Nat} {f h r : Nat → Nat} (m : TailMem w wr gq gr n M K f h r) (hd : Dr wr wr') : TailMem w wr' gq gr n M K f h r := by
  obtain ⟨k, rfl⟩ := hd
  exact ⟨m.u, m.q, m.r, m.b.trans (Below.dr (Dr.of _ _)), m.l1, m.l2⟩
theorem TailMem.setR {w wr : World} {gq gr n M K : Nat} {f h r r' : Nat → Nat} (m : TailMem w wr gq gr n M K f h r) (i : Nat) (u : Value) (hr : (wr.setCell ⟨gr, i, none⟩ u).rowIs gr 96 M (u32s r')) :
    TailMem w (wr.setCell ⟨gr, i, none⟩ u) gq gr n M K f h r' :=
  ⟨m.u.setOther (a := ⟨gr, i, none⟩) (by have := m.l1; have := m.l2; show w.heap.size ≠ gr; omega) u, m.q.setOther (a := ⟨gr, i, none⟩) (by have := m.l2; show gq ≠ gr; omega) u, hr,
    m.b.setCell (p := ⟨gr, i, none⟩) (by have := m.l1; have := m.l2; show w.heap.size ≤ gr; omega) u, m.l1, m.l2⟩
theorem TailMem.setR2 {w wr : World} {gq gr n M K : Nat} {f h r r' : Nat → Nat} (m : TailMem w wr gq gr n M K f h r) (i : Nat) (u u' : Value) (hr : ((wr.setCell ⟨gr, i, none⟩ u).setCell ⟨gr, i, none⟩ u').rowIs gr 96 M (u32s r')) :
    TailMem w ((wr.setCell ⟨gr, i, none⟩ u).setCell ⟨gr, i, none⟩ u') gq gr n M K f h r' :=
  ⟨(m.u.setOther (a := ⟨gr, i, none⟩) (by have := m.l1; have := m.l2; show w.heap.size ≠ gr; omega) u).setOther (a := ⟨gr, i, none⟩) (by have := m.l1; have := m.l2; show w.heap.size ≠ gr; omega) u',
    (m.q.setOther (a := ⟨gr, i, none⟩) (by have := m.l2; show gq ≠ gr; omega) u).setOther (a := ⟨gr, i, none⟩) (by have := m.l2; show gq ≠ gr; omega) u', hr,
    (m.b.setCell (p := ⟨gr, i, none⟩) (by have := m.l1; have := m.l2; show w.heap.size ≤ gr; omega) u).setCell (p := ⟨gr, i, none⟩) (by have := m.l1; have := m.l2; show w.heap.size ≤ gr; omega) u', m.l1, m.l2⟩
theorem row_again {w : World} {g t n k : Nat} {F G : Nat → Nat} {V V' : Int} (h : w.rowIs g t n (u32s fun j => if j < k then F j else G j)) (hv : V' = (F k : Nat)) :
    ((w.setCell ⟨g, k, none⟩ (.int .u32 V)).setCell ⟨g, k, none⟩ (.int .u32 V')).rowIs g t n (u32s fun j => if j < k + 1 then F j else G j) := by
  subst hv
  refine ((h.set k _).set k _).congr fun i _ => ?_
  unfold u32s
  dsimp only
  by_cases e : i = k
  · subst e; simp
  · rw [if_neg e, if_neg e]
    by_cases e2 : i < k
    · rw [if_pos e2, if_pos (by omega)]
    · rw [if_neg e2, if_neg (by omega)]
theorem unshift_or {z L t : Nat} (hL : L < 32) : bits .or .u32 ((D (z * 2 ^ L) t : Int) / 2 ^ L) ((D (z * 2 ^ L) (t + 1) : Int) * 2 ^ (32 - L) % 4294967296) = (D z t : Nat) := by
  obtain ⟨h1, h2, h3⟩ := unshift z L t hL
  have e1 : (D (z * 2 ^ L) t : Int) / 2 ^ L = ((D (z * 2 ^ L) t / 2 ^ L : Nat) : Int) := by simp
  have e2 : (D (z * 2 ^ L) (t + 1) : Int) * 2 ^ (32 - L) % 4294967296 = ((D (z * 2 ^ L) (t + 1) * 2 ^ (32 - L) % B32 : Nat) : Int) := by
    rw [show B32 = 4294967296 from rfl]; simp
  have hle : 2 ^ (32 - L) ≤ 2 ^ 32 := Nat.pow_le_pow_right (by decide) (by omega)
  have g1 : D (z * 2 ^ L) t / 2 ^ L < 4294967296 := by omega
  have g2 : D (z * 2 ^ L) (t + 1) * 2 ^ (32 - L) % B32 < 4294967296 := Nat.mod_lt _ B32_pos
  rw [e1, e2, u32_or_nat _ _ g1 g2, Nat.or_comm, nat_join (32 - L) _ _ h3 h2, h1, Nat.add_comm]
theorem unshift_zero {z L t : Nat} (hL : ¬ 0 < L) : (D (z * 2 ^ L) t : Int) / 2 ^ L = (D z t : Nat) := by
  obtain rfl : L = 0 := by omega
  simp
end Go.Proofs.Gv
