/- Package-merge, plainly: the lists of the levels, how many are taken, and that the counts are lengths of least cost. -/
import Derived.Test.YtghjjfknlnegpaaGreatRatTP
import Derived.Test.YtghjjfknlnegpaaGreatHlscP
import Derived.Test.YtghjjfknlnegpaaGreatHrowP
import Derived.Test.YtghjjfknlnegpaaGreatHmeqP
import Derived.OrdersIn
import Derived.TacticsIn
import Derived.Test.YtghjjfknlnegpaaGreatMix
import Derived.Maps.OwnIn
import Derived.RangeFuncBox
import Derived.Test.YtghjjfknlnegpaaGreatLln
import Derived.Test.YtghjjfknlnegpaaGreatMlsP
import Derived.Maps.AppendAt
import Derived.Test.YtghjjfknlnegpaaGreatMchP
import Derived.Test.YtghjjfknlnegpaaGreatFront
import Derived.Test.YtghjjfknlnegpaaGreatZtbP
import Derived.Test.YtghjjfknlnegpaaGreatHawkP
import Derived.Test.YtghjjfknlnegpaaGreatRefAdd
import Derived.Test.YtghjjfknlnegpaaGreatHslP
set_option linter.unusedSimpArgs false
set_option linter.unusedVariables false
namespace Go.Proofs.Gv

/-- two ordered lists in one: those of the first ahead of equal ones of the second. -/
def mgI : List (Nat × Bool) → List (Nat × Bool) → List (Nat × Bool)
  | [], b => b
  | x :: a, b => go x a (mgI a) b
where go (x : Nat × Bool) (a : List (Nat × Bool)) (rec : List (Nat × Bool) → List (Nat × Bool)) : List (Nat × Bool) → List (Nat × Bool)
  | [] => x :: a
  | y :: b => if x.1 ≤ y.1 then x :: rec (y :: b) else y :: go x a rec b
def pkI : List (Nat × Bool) → List (Nat × Bool)
  | x :: y :: l => (x.1 + y.1, false) :: pkI l
  | _ => []
def sgI (A : List Nat) : List (Nat × Bool) := A.map (·, true)
def lvI (A : List Nat) : Nat → List (Nat × Bool)
  | 0 => []
  | t + 1 => mgI (sgI A) (pkI (lvI A t))
def sgN (l : List (Nat × Bool)) : Nat := l.countP (·.2)
/-- what is taken, from the level of a number on downwards. -/
def tkI (A : List Nat) : Nat → Nat → List (Nat × Nat)
  | 0, _ => []
  | t + 1, m => (m, sgN ((lvI A (t + 1)).take m)) :: tkI A t (2 * (m - sgN ((lvI A (t + 1)).take m)))
/-! The first of a level weigh least. -/
end Go.Proofs.Gv

namespace Go.Proofs.Gv

def auL (Ws : List Nat) : List Nat := (owL Ws).reverse
end Go.Proofs.Gv

namespace Go.Proofs.Gv
open Go Go.RowKit Go.Maps

/-- A row of items as cells. -/
def itV (L : List (Nat × Bool)) : List Value := L.flatMap fun x => [.bool false, .string (mg x.1), .bool x.2]
/-- A row of items reads. -/
def ItS (W : World) (b : Nat) (L : List (Nat × Bool)) : Prop := ∀ (m : Nat) (u : Value), (itV L)[m]? = some u → W.cell? ⟨b, m, none⟩ = some u
theorem ItS.below {W W' : World} {b : Nat} {L : List (Nat × Bool)} (h : ItS W b L) (hb : Below W.heap.size W W') : ItS W' b L := fun m u hm => (hb.cell (World.block_lt_of_cell? _ _ (h m u hm))).trans (h m u hm)
theorem ItS.grown {W W' : World} {b : Nat} {L : List (Nat × Bool)} {row : Option Nat} (h : ItS W b L) (hg : W.grownBy W' row) (hne : row ≠ some b) : ItS W' b L := fun m u hm =>
  (World.cell?_of_block (hg.block b (World.block_lt_of_cell? _ ⟨b, m, none⟩ (h m u hm)) (fun e => hne e.symm))).trans (h m u hm)
theorem ItS.set {W : World} {b p o : Nat} {v : Value} {L : List (Nat × Bool)} (h : ItS W b L) (hne : b ≠ p) : ItS (W.setCell ⟨p, o, none⟩ v) b L := fun m u hm => (World.cell?_setCell_other _ _ _ _ (fun e => hne (congrArg Addr.block e).symm)).trans (h m u hm)
theorem ItS.of {W : World} {g : Nat} {L : List (Nat × Bool)} (h : OwnAt W g (itV L)) : ItS W g L := fun _ _ hm => h.at hm
end Go.Proofs.Gv

namespace Go.Proofs.Gv
open Go Go.RowKit Go.Maps
attribute [local go_sem] Oper.semAt_some

/-- What a round keeps: the iterator's box and its row. -/
structure KpB (bk br : Nat) (A B : World) : Prop where
  size : A.heap.size ≤ B.heap.size
  same : ∀ k, k = bk ∨ k = br → B.heap[k]? = A.heap[k]?
theorem KpB.trans {bk br : Nat} {A B C : World} (h : KpB bk br A B) (k : KpB bk br B C) : KpB bk br A C := ⟨Nat.le_trans h.size k.size, fun i hi => (k.same i hi).trans (h.same i hi)⟩
/-- The row at which the iterator stands. -/
def BwR (W : World) (bk br c : Nat) (vs : List Value) : Prop := W.cell? ⟨bk, 0, none⟩ = some (.slice (some ⟨br, 0, none⟩) vs.length c) ∧ ∀ i v, vs[i]? = some v → W.cell? ⟨br, i, none⟩ = some v
theorem BwR.kp {W W' : World} {bk br c : Nat} {vs : List Value} (h : BwR W bk br c vs) (hk : KpB bk br W W') : BwR W' bk br c vs :=
  ⟨(World.cell?_of_block (hk.same _ (.inl rfl))).trans h.1, fun i v hi => (World.cell?_of_block (hk.same _ (.inr rfl))).trans (h.2 i v hi)⟩
theorem BwR.below {W W' : World} {bk br c : Nat} {vs : List Value} (h : BwR W bk br c vs) (hb : Below W.heap.size W W') : BwR W' bk br c vs :=
  ⟨(hb.cell (World.block_lt_of_cell? _ _ h.1)).trans h.1, fun i v hi => (hb.cell (World.block_lt_of_cell? _ _ (h.2 i v hi))).trans (h.2 i v hi)⟩
end Go.Proofs.Gv

namespace Go.Proofs.Gv
open Go Go.RowKit

section
variable {F : Fence} {n : Nat} {P : Program} {ops : Array Oper} {Q : Exit → Act → World → Prop}
/-- A fence that shuts nothing out: the wide one, and a round within it. -/
structure FnW (P : Program) (F : Fence) : Prop where
  fn : ∀ f, F.fn f
  dp : F.depth = none
  call : ∀ {m : Nat} {f : FuncId} {args : Array Value} {w : World} {R : Ending → World → Prop}, Calls P f args w R → CallsIn F m P f args w R
theorem FnW.wide : FnW P Fence.wide := ⟨fun _ => trivial, rfl, fun h => callsIn_wide.2 h⟩
theorem FnW.round (l : Nat) : FnW P (Fence.wide.inRound l) := ⟨fun _ => trivial, rfl, fun h => callsIn_wide.2 h⟩
/-- This world. -/
structure Cw (W : World) where
  x : World
  h : x = W
/-- In state a and in this world the operation leaves v in its temporary, and the world as it is. -/
def Yw (P : Program) (ops : Array Oper) (W : World) (o : Oper) (v : Value) (a : Act) : Prop :=
  (Region.wanted o (yielded ops a.tmps) = true ∧ o.quietAt P a (fun x => ∃ u : Cw W, x = u.x) W v) ∨ (Region.wanted o (yielded ops a.tmps) = false ∧ v = undef)
theorem Yw.of_same {W : World} {o : Oper} {v : Value} {a a' : Act} (hy : Yw P ops W o v a) (he : execOp a'.eval o = execOp a.eval o) (hw : Region.wanted o (yielded ops a'.tmps) = Region.wanted o (yielded ops a.tmps)) : Yw P ops W o v a' := by
  unfold Yw Oper.quietAt at *
  rw [he, hw]
  exact hy
end
end Go.Proofs.Gv

namespace Go.Proofs.Gv
open Go Go.RowKit
theorem ownsRow_form {W : World} {base : Nat} {e : TypeId} {size n : Nat} {v : Value} {xs : List Value} (h : W.ownsRow base e size v n xs) {k : Nat} (hk : v.ownBlock = some k) : ∃ c, v = .slice (some ⟨k, 0, none⟩) n c ∧ base ≤ k ∧ ∃ o, W.heap[k]? = some o ∧ o.isCells = true := by
  rcases h.2 with ⟨rfl, _⟩ | ⟨g, cap, cur, rfl, hb, hg, _⟩
  · cases hk
  · obtain rfl : g = k := by simpa [Value.ownBlock] using hk
    exact ⟨cap, rfl, hb, _, hg, rfl⟩
structure AppD (base L : Nat) (e : TypeId) (size : Nat) (n : Nat) (ys : List Value) (v' : Value) (W W' : World) : Prop where
  kp : KpL L W W'
  box : BC W' L [v']
  row : W'.ownsRow base e size v' n ys
  os : W'.os = W.os
  tape : W'.tape = W.tape
  output : W'.output = W.output
  same : ∀ k, k < base → k ≠ L → W'.heap[k]? = W.heap[k]?
  keeps : ∀ m, KeepsFrom m W W'
theorem AppD.below {base L n m : Nat} {e : TypeId} {size : Nat} {ys : List Value} {v' : Value} {w W W' : World} (h : AppD base L e size n ys v' W W') (hw : Below m w W) (hm : m ≤ L) (hmb : m ≤ base) : Below m w W' :=
  ⟨h.os.trans hw.os, h.tape.trans hw.tape, h.output.trans hw.output, Nat.le_trans hw.size h.kp.size, fun k hk => (h.same k (by omega) (by omega)).trans (hw.block k hk)⟩
end Go.Proofs.Gv

namespace Go.Proofs.Gv
open Go Go.RowKit Go.Maps Go.Shelf
attribute [local go_sem] Oper.semAt_some

/-- Rows of two numbers. -/
def PkR (W : World) (g : Nat) (P : List (Nat × Nat)) : Prop := ∀ (j t s : Nat), P[j]? = some (t, s) → ∃ gj, W.cell? ⟨g, j, none⟩ = some (.slice (some ⟨gj, 0, none⟩) 2 2) ∧ W.cell? ⟨gj, 0, none⟩ = some (.int .i64 (t : Int)) ∧ W.cell? ⟨gj, 1, none⟩ = some (.int .i64 (s : Int))
/-- What Packages answers. -/
def PkP (L : List (Bool × ByteArray)) (m : Int) (w : World) (e : Ending) (w' : World) : Prop :=
  (limE L m ≠ 0 → e = .returned (.tuple #[.slice none 0 0, .int .i64 (limE L m)])) ∧ (limE L m = 0 → ∃ Ws g c, L = VL Ws ∧ e = .returned (.tuple #[.slice (some ⟨g, 0, none⟩) m.toNat c, .int .i64 0]) ∧ m.toNat ≤ c ∧ c ≤ maxLen ∧ PkR w' g (tkI (auL Ws) m.toNat (2 * Ws.length - 2))) ∧ Below w.heap.size w w'
/-- The rows of the levels. -/
structure LvR (W : World) (skip : Option Nat) (Lv : List Value) (A : List Nat) (k : Nat) : Prop where
  len : Lv.length = k
  row : ∀ (i : Nat) (v : Value), Lv[i]? = some v → ∃ g c, v = .slice (some ⟨g, 0, none⟩) (lvI A (i + 1)).length c ∧ (lvI A (i + 1)).length ≤ c ∧ c ≤ maxLen ∧ g < W.heap.size ∧ skip ≠ some g ∧ ItS W g (lvI A (i + 1))
theorem LvR.below {W W' : World} {skip : Option Nat} {Lv : List Value} {A : List Nat} {k : Nat} (h : LvR W skip Lv A k) (hb : Below W.heap.size W W') : LvR W' skip Lv A k := by
  refine ⟨h.len, fun i v hi => ?_⟩
  obtain ⟨g, c, h1, h2, h3, h4, h5, h6⟩ := h.row i v hi
  exact ⟨g, c, h1, h2, h3, Nat.lt_of_lt_of_le h4 hb.size, h5, h6.below hb⟩
theorem LvR.app {W W' : World} {skip skip' : Option Nat} {Lv : List Value} {A : List Nat} {k g c : Nat} (h : LvR W skip Lv A k) (hg : W.grownBy W' skip) (hat : skip' = skip ∨ skip' = some W.heap.size) (h1 : (lvI A (k + 1)).length ≤ c) (h1m : c ≤ maxLen) (h2 : g < W.heap.size) (h3 : skip ≠ some g)
    (h4 : ItS W g (lvI A (k + 1))) : LvR W' skip' (Lv ++ [.slice (some ⟨g, 0, none⟩) (lvI A (k + 1)).length c]) A (k + 1) := by
  have hs : ∀ j, j < W.heap.size → skip ≠ some j → skip' ≠ some j := fun j hj hne e => by
    rcases hat with h | h
    · exact hne (h ▸ e)
    · rw [h] at e
      have : W.heap.size = j := by simpa using e
      omega
  refine ⟨by simp [h.len], fun i v hi => ?_⟩
  by_cases hil : i < k
  · rw [List.getElem?_append_left (by rw [h.len]; exact hil)] at hi
    obtain ⟨g', c', a1, a2, a3, a4, a5, a6⟩ := h.row i v hi
    exact ⟨g', c', a1, a2, a3, Nat.lt_of_lt_of_le a4 hg.size, hs g' a4 a5, a6.grown hg a5⟩
  · have hlt := (List.getElem?_eq_some_iff.1 hi).1
    rw [List.length_append, h.len] at hlt
    simp at hlt
    obtain rfl : i = k := by omega
    rw [List.getElem?_append_right (by rw [h.len]; exact Nat.le_refl _), h.len, Nat.sub_self] at hi
    cases hi
    exact ⟨g, c, rfl, h1, h1m, Nat.lt_of_lt_of_le h2 hg.size, hs g h2 h3, h4.grown hg h3⟩
/-- Rows of two numbers, as they grow. -/
structure Rw2 (W : World) (base : Nat) (skip : Option Nat) (Lr : List Value) (P : List (Nat × Nat)) : Prop where
  len : Lr.length = P.length
  row : ∀ (i t s : Nat), P[i]? = some (t, s) → ∃ g, Lr[i]? = some (.slice (some ⟨g, 0, none⟩) 2 2) ∧ base ≤ g ∧ g < W.heap.size ∧ skip ≠ some g ∧ W.cell? ⟨g, 0, none⟩ = some (.int .i64 (t : Int)) ∧ W.cell? ⟨g, 1, none⟩ = some (.int .i64 (s : Int))
theorem Rw2.nil (W : World) (base : Nat) (skip : Option Nat) : Rw2 W base skip [] [] := ⟨rfl, fun i t s h => by cases h⟩
theorem Rw2.grown {W W' : World} {base : Nat} {skip row : Option Nat} {Lr : List Value} {P : List (Nat × Nat)} (h : Rw2 W base skip Lr P) (hg : W.grownBy W' row) (hne : ∀ g, base ≤ g → skip ≠ some g → row ≠ some g ∨ ∃ o, W.heap[g]? = some o ∧ o.isCells = false) : Rw2 W' base skip Lr P := by
  refine ⟨h.len, fun i t s hi => ?_⟩
  obtain ⟨g, h1, h2, h3, h4, h5, h6⟩ := h.row i t s hi
  have hr : row ≠ some g := by
    rcases hne g h2 h4 with h | ⟨o, ho, hc⟩
    · exact h
    · exfalso
      obtain ⟨o', ho', hc'⟩ := cells_of_cell h5
      rw [show W.heap[g]? = some o' from ho'] at ho
      cases ho
      rw [hc] at hc'
      cases hc'
  exact ⟨g, h1, h2, Nat.lt_of_lt_of_le h3 hg.size, h4, (World.cell?_of_block (hg.block g h3 (fun e => hr e.symm))).trans h5, (World.cell?_of_block (hg.block g h3 (fun e => hr e.symm))).trans h6⟩
theorem Rw2.set {W : World} {base p o : Nat} {skip : Option Nat} {Lr : List Value} {P : List (Nat × Nat)} {v : Value} (h : Rw2 W base skip Lr P) (hp : p < base) : Rw2 (W.setCell ⟨p, o, none⟩ v) base skip Lr P := by
  refine ⟨h.len, fun i t s hi => ?_⟩
  obtain ⟨g, h1, h2, h3, h4, h5, h6⟩ := h.row i t s hi
  exact ⟨g, h1, h2, by simpa using h3, h4, (World.cell?_setCell_other _ _ _ _ (fun e => by have := congrArg Addr.block e; simp at this; omega)).trans h5, (World.cell?_setCell_other _ _ _ _ (fun e => by have := congrArg Addr.block e; simp at this; omega)).trans h6⟩
theorem Rw2.app {W W' : World} {base : Nat} {skip skip' : Option Nat} {Lr : List Value} {P : List (Nat × Nat)} {g t s : Nat} (h : Rw2 W base skip Lr P) (hg : W.grownBy W' skip) (hat : skip' = skip ∨ skip' = some W.heap.size) (h2 : base ≤ g) (h3 : g < W.heap.size) (h4 : skip ≠ some g)
    (h5 : W.cell? ⟨g, 0, none⟩ = some (.int .i64 (t : Int))) (h6 : W.cell? ⟨g, 1, none⟩ = some (.int .i64 (s : Int))) : Rw2 W' base skip' (Lr ++ [.slice (some ⟨g, 0, none⟩) 2 2]) (P ++ [(t, s)]) := by
  have hs : ∀ j, j < W.heap.size → skip ≠ some j → skip' ≠ some j := fun j hj hne e => by
    rcases hat with h | h
    · exact hne (h ▸ e)
    · rw [h] at e
      have : W.heap.size = j := by simpa using e
      omega
  have kp : ∀ (b o : Nat) (u : Value), b < W.heap.size → skip ≠ some b → W.cell? ⟨b, o, none⟩ = some u → W'.cell? ⟨b, o, none⟩ = some u := fun b o u hb hne hc => (World.cell?_of_block (hg.block b hb (fun e => hne e.symm))).trans hc
  refine ⟨by simp [h.len], fun i t' s' hi => ?_⟩
  by_cases hil : i < P.length
  · rw [List.getElem?_append_left hil] at hi
    obtain ⟨g', a1, a2, a3, a4, a5, a6⟩ := h.row i t' s' hi
    exact ⟨g', by rw [List.getElem?_append_left (by rw [h.len]; exact hil)]; exact a1, a2, Nat.lt_of_lt_of_le a3 hg.size, hs g' a3 a4, kp _ _ _ a3 a4 a5, kp _ _ _ a3 a4 a6⟩
  · have hlt := (List.getElem?_eq_some_iff.1 hi).1
    rw [List.length_append] at hlt
    simp at hlt
    obtain rfl : i = P.length := by omega
    rw [List.getElem?_append_right (Nat.le_refl _), Nat.sub_self] at hi
    cases hi
    exact ⟨g, by rw [← h.len]; simp, h2, Nat.lt_of_lt_of_le h3 hg.size, hs g h3 h4, kp _ _ _ h3 h4 h5, kp _ _ _ h3 h4 h6⟩
/-- What is taken, as it is counted. -/
structure TkB (w0 : World) (p q : Nat) (A : List Nat) (m M j : Nat) (W : World) : Prop where
  os : W.os = w0.os
  tape : W.tape = w0.tape
  output : W.output = w0.output
  size : w0.heap.size ≤ W.heap.size
  same : ∀ b, b < w0.heap.size → b ≠ p → b ≠ q → W.heap[b]? = w0.heap[b]?
  row : ∃ v Lr, BC W p [v] ∧ W.ownsRow w0.heap.size 24 1 v j Lr ∧ Rw2 W w0.heap.size v.ownBlock Lr ((tkI A m M).take j)
  tk : ∃ mj : Nat, BC W q [.int .i64 (mj : Int)] ∧ mj ≤ (lvI A (m - j)).length ∧ tkI A m M = (tkI A m M).take j ++ tkI A (m - j) mj
theorem TkB.grown {w0 W W' : World} {p q m M j : Nat} {A : List Nat} {row : Option Nat} (h : TkB w0 p q A m M j W) (hp : p < w0.heap.size) (hq : q < w0.heap.size) (hg : W.grownBy W' row) (hr : ∀ l, row = some l → w0.heap.size ≤ l ∧ ∃ o, W.heap[l]? = some o ∧ o.isCells = false) : TkB w0 p q A m M j W' := by
  obtain ⟨v, Lr, h1, h2, h3⟩ := h.row
  obtain ⟨mj, k1, k2, k3⟩ := h.tk
  refine ⟨hg.os.trans h.os, hg.tape.trans h.tape, hg.output.trans h.output, Nat.le_trans h.size hg.size, fun b hb h1 h2 => (hg.block b (Nat.lt_of_lt_of_le hb h.size) (fun e => by have := (hr b e.symm).1; omega)).trans (h.same b hb h1 h2), ⟨v, Lr, h1.grown hg (fun e => by have := (hr p e.symm).1; omega), own_grown h2 hg (fun g hgv e => ?_), h3.grown hg (fun g hb hs => ?_)⟩, mj, k1.grown hg (fun e => by have := (hr q e.symm).1; omega), k2, k3⟩
  · obtain ⟨-, o, ho, hc⟩ := hr g e
    obtain ⟨_, _, _, u, hu, hcu⟩ := ownsRow_form h2 hgv
    rw [ho] at hu
    cases hu
    rw [hc] at hcu
    cases hcu
  · cases row with
    | none => exact .inl (by simp)
    | some l =>
      by_cases e : l = g
      · subst e
        exact .inr (hr l rfl).2
      · exact .inl (by simpa using e)
end Go.Proofs.Gv

namespace Go.Proofs.Gv
open Go Go.RowKit Go.Maps

/-- The flags of the reference: whether an element is a package. -/
def ngI (L : List (Nat × Bool)) : List (Nat × Bool) := L.map fun x => (x.1, !x.2)
/-- The rows of the levels. -/
structure LvM (W : World) (skip : Option Nat) (Lv : List Value) (A : List Nat) (k : Nat) : Prop where
  len : Lv.length = k
  row : ∀ (i : Nat) (v : Value), Lv[i]? = some v → ∃ g c, v = .slice (some ⟨g, 0, none⟩) (lvI A (i + 1)).length c ∧ (lvI A (i + 1)).length ≤ c ∧ c ≤ maxLen ∧ g < W.heap.size ∧ skip ≠ some g ∧ ItS W g (ngI (lvI A (i + 1)))
theorem LvM.below {W W' : World} {skip : Option Nat} {Lv : List Value} {A : List Nat} {k : Nat} (h : LvM W skip Lv A k) (hb : Below W.heap.size W W') : LvM W' skip Lv A k := by
  refine ⟨h.len, fun i v hi => ?_⟩
  obtain ⟨g, c, h1, h2, h3, h4, h5, h6⟩ := h.row i v hi
  exact ⟨g, c, h1, h2, h3, Nat.lt_of_lt_of_le h4 hb.size, h5, h6.below hb⟩
theorem LvM.app {W W' : World} {skip skip' : Option Nat} {Lv : List Value} {A : List Nat} {k g c : Nat} (h : LvM W skip Lv A k) (hg : W.grownBy W' skip) (hat : skip' = skip ∨ skip' = some W.heap.size) (h1 : (lvI A (k + 1)).length ≤ c) (h1m : c ≤ maxLen) (h2 : g < W.heap.size) (h3 : skip ≠ some g)
    (h4 : ItS W g (ngI (lvI A (k + 1)))) : LvM W' skip' (Lv ++ [.slice (some ⟨g, 0, none⟩) (lvI A (k + 1)).length c]) A (k + 1) := by
  have hs : ∀ j, j < W.heap.size → skip ≠ some j → skip' ≠ some j := fun j hj hne e => by
    rcases hat with h | h
    · exact hne (h ▸ e)
    · rw [h] at e
      have : W.heap.size = j := by simpa using e
      omega
  refine ⟨by simp [h.len], fun i v hi => ?_⟩
  by_cases hil : i < k
  · rw [List.getElem?_append_left (by rw [h.len]; exact hil)] at hi
    obtain ⟨g', c', a1, a2, a3, a4, a5, a6⟩ := h.row i v hi
    exact ⟨g', c', a1, a2, a3, Nat.lt_of_lt_of_le a4 hg.size, hs g' a4 a5, a6.grown hg a5⟩
  · have hlt := (List.getElem?_eq_some_iff.1 hi).1
    rw [List.length_append, h.len] at hlt
    simp at hlt
    obtain rfl : i = k := by omega
    rw [List.getElem?_append_right (by rw [h.len]; exact Nat.le_refl _), h.len, Nat.sub_self] at hi
    cases hi
    exact ⟨g, c, rfl, h1, h1m, Nat.lt_of_lt_of_le h2 hg.size, hs g h2 h3, h4.grown hg h3⟩
end Go.Proofs.Gv

namespace Go.Proofs.Gv
open Go Go.RowKit Go.Maps

theorem PkR.belowM {W W' : World} {g : Nat} {P : List (Nat × Nat)} (h : PkR W g P) (hb : Below W.heap.size W W') : PkR W' g P := fun j t s hj => by
  obtain ⟨gj, h1, h2, h3⟩ := h j t s hj
  exact ⟨gj, cellBelow h1 hb, cellBelow h2 hb, cellBelow h3 hb⟩
end Go.Proofs.Gv

namespace Go.Proofs.Gv
open Go Go.RowKit Go.Maps

/-- What stays as it is while the reference puts the lengths in their places. -/
structure KR9 (n S T Go N m : Nat) (gs : Nat → Nat) (O ord : List Nat) (W : World) : Prop where
  s : SumT W S O n
  o : BC W Go (natV ord)
  r : ∀ j, j ≤ m → W.cell? ⟨T, j, none⟩ = some (.slice (some ⟨gs j, 0, none⟩) N N) ∧ RowT W (gs j) O n (m - j)
theorem KR9.row {n S T Go N m : Nat} {gs : Nat → Nat} {O ord : List Nat} {W W' : World} {row : Option Nat} (h : KR9 n S T Go N m gs O ord W) (hg : W.grownBy W' row) (h2 : row ≠ some S) (h3 : row ≠ some T) (h4 : row ≠ some Go) (h5 : ∀ j, j ≤ m → row ≠ some (gs j)) : KR9 n S T Go N m gs O ord W' :=
  ⟨h.s.byGrown hg h2, h.o.byGrown hg h4, fun j hj => ⟨(World.cell?_of_block (hg.block _ (World.block_lt_of_cell? _ _ (h.r j hj).1) (fun e => h3 e.symm))).trans (h.r j hj).1, (h.r j hj).2.byGrown hg (h5 j hj)⟩⟩
theorem KR9.below {n S T Go N m : Nat} {gs : Nat → Nat} {O ord : List Nat} {W W' : World} (h : KR9 n S T Go N m gs O ord W) (hb : Below W.heap.size W W') : KR9 n S T Go N m gs O ord W' :=
  h.row (gRow hb none) (by simp) (by simp) (by simp) (fun _ _ => by simp)
end Go.Proofs.Gv

namespace Go.Proofs.Gv
open Go Go.RowKit Go.Maps

/-- Sizes that are too great. -/
def gr39 (L : List (Bool × ByteArray)) (m : Int) : Bool := grS L || ((decide (6 < L.length) && decide (L.length ≤ 64)) || (decide (8 < m) && decide (m ≤ 64)))
set_option maxRecDepth 100000 in
set_option maxHeartbeats 1600000 in
theorem rGreat39_any (cap : Nat) (a : Option Addr) (L : List (Bool × ByteArray)) (m : Int) (hL : L.length ≤ maxLen) (hz : ∀ x ∈ L, x.2.size ≤ maxLen) (hm : (Lit.int .i64 m).wf = true) (w : World) (h : Sl w a L) :
    Calls Tryz.prog 4 #[.slice a L.length cap, .int .i64 m] w fun e w' => e = .returned (.bool (gr39 L m)) ∧ Below w.heap.size w w' := by
  have HG := Lib.hid (greatS_any a cap L w hL hz h)
  unfold maxLen at hL
  obtain ⟨b, hb⟩ : ∃ b, grS L = b := ⟨_, rfl⟩
  obtain ⟨n, hn⟩ : ∃ n, L.length = n := ⟨_, rfl⟩
  have HE := Lib.hid (show gr39 L m = (b || ((decide (6 < n) && decide (n ≤ 64)) || (decide (8 < m) && decide (m ≤ 64)))) from by unfold gr39; rw [hb, hn])
  obtain ⟨r, hr⟩ : ∃ r, gr39 L m = r := ⟨_, rfl⟩
  rw [hr] at HE ⊢
  rw [hb, hn] at HG
  rw [hn] at hL ⊢
  clear hb hn hz h hr
  go_enter Tryz.func4, Tryz.ntmps4
  go_wp2_with fail
  refine HG.out.mono ?_
  rintro e w1 ⟨rfl, rfl⟩
  have hres : ∀ q, (b = true ∧ q = true ∨ b = false ∧ q = ((decide (6 < n) && decide (n ≤ 64)) || (decide (8 < m) && decide (m ≤ 64)))) → q = r := fun q h => by
    rw [HE.out]; rcases h with ⟨rfl, rfl⟩ | ⟨rfl, rfl⟩ <;> simp
  have HR := Lib.hid hres
  clear hres
  cases b with
  | true =>
    go_wp2
    go_ret
    exact ⟨by rw [← HR.out true (.inl ⟨trivial, rfl⟩)]; rfl, Below.refl _ _⟩
  | false =>
    by_cases h6 : 6 < n
    · have h6I : (6 : Int) < (n : Int) := by omega
      by_cases h64 : n ≤ 64
      · have h64I : (n : Int) ≤ 64 := by omega
        go_wp2
        go_ret
        exact ⟨by rw [← HR.out true (.inr ⟨trivial, by simp [h6, h64]⟩)]; rfl, Below.refl _ _⟩
      · have h64I : ¬ (n : Int) ≤ 64 := by omega
        have h64B : decide ((n : Int) ≤ 64) = false := by simp; omega
        by_cases h8 : 8 < m
        · by_cases hm64 : m ≤ 64
          · go_wp2
            go_ret
            exact ⟨by rw [← HR.out true (.inr ⟨trivial, by simp [h8, hm64]⟩)]; rfl, Below.refl _ _⟩
          · have hmB : decide (m ≤ 64) = false := by simpa using hm64
            go_wp2
            go_ret
            exact ⟨by rw [← HR.out false (.inr ⟨trivial, by simp [h64]; omega⟩)]; rfl, Below.refl _ _⟩
        · have hmB : decide (8 < m) = false := by simpa using h8
          go_wp2
          go_ret
          exact ⟨by rw [← HR.out false (.inr ⟨trivial, by simp [h64]; omega⟩)]; rfl, Below.refl _ _⟩
    · have h6I : ¬ (6 : Int) < (n : Int) := by omega
      have h6B : decide ((6 : Int) < (n : Int)) = false := by simp; omega
      by_cases h8 : 8 < m
      · by_cases hm64 : m ≤ 64
        · go_wp2
          go_ret
          exact ⟨by rw [← HR.out true (.inr ⟨trivial, by simp [h8, hm64]⟩)]; rfl, Below.refl _ _⟩
        · have hmB : decide (m ≤ 64) = false := by simpa using hm64
          go_wp2
          go_ret
          exact ⟨by rw [← HR.out false (.inr ⟨trivial, by simp [h6]; omega⟩)]; rfl, Below.refl _ _⟩
      · have hmB : decide (8 < m) = false := by simpa using h8
        go_wp2
        go_ret
        exact ⟨by rw [← HR.out false (.inr ⟨trivial, by simp [h6]; omega⟩)]; rfl, Below.refl _ _⟩
theorem grS_false39 {L : List (Bool × ByteArray)} (h : grS L = false) : (∀ x ∈ L, x.2.size ≤ 8) ∧ L.length ≤ 67 := by
  unfold grS at h
  simp only [Bool.or_eq_false_iff, Bool.and_eq_false_iff, decide_eq_false_iff_not] at h
  obtain ⟨h1, h2, h3⟩ := h
  refine ⟨fun x hx => ?_, by omega⟩
  unfold grB at h1
  rw [List.any_eq_false] at h1
  have := h1 x hx
  simpa using this
/-- Lengths, or none. -/
def LnV (L : List (Bool × ByteArray)) (m : Int) (v : Value) (W : World) : Prop :=
  (limE L m ≠ 0 ∧ v = .slice none 0 0) ∨ (limE L m = 0 ∧ ∃ Ws g, L = VL Ws ∧ v = .slice (some ⟨g, 0, none⟩) Ws.length Ws.length ∧ BC W g (natV (limL Ws m.toNat)))
theorem LnV.below {L : List (Bool × ByteArray)} {m : Int} {v : Value} {W W' : World} (h : LnV L m v W) (hb : Below W.heap.size W W') : LnV L m v W' := by
  rcases h with h | ⟨h0, Ws, g, h1, h2, h3⟩
  · exact .inl h
  · exact .inr ⟨h0, Ws, g, h1, h2, h3.below hb⟩
theorem LnV.of {L : List (Bool × ByteArray)} {m : Int} {w w' : World} {e : Ending} (h : LLn L m w e w') : ∃ v, e = .returned (.tuple #[v, .int .i64 (limE L m)]) ∧ LnV L m v w' ∧ Below w.heap.size w w' := by
  obtain ⟨h1, h2, h3⟩ := h
  by_cases h0 : limE L m = 0
  · obtain ⟨Ws, g, e1, e2, e3⟩ := h2 h0
    exact ⟨_, by rw [h0]; exact e2, .inr ⟨h0, Ws, g, e1, rfl, e3⟩, h3⟩
  · exact ⟨_, h1 h0, .inl ⟨h0, rfl⟩, h3⟩
/-- Rows of two numbers, or none. -/
def PkV (L : List (Bool × ByteArray)) (m : Int) (v : Value) (W : World) : Prop :=
  (limE L m ≠ 0 ∧ v = .slice none 0 0) ∨ (limE L m = 0 ∧ ∃ Ws g c, L = VL Ws ∧ v = .slice (some ⟨g, 0, none⟩) m.toNat c ∧ PkR W g (tkI (auL Ws) m.toNat (2 * Ws.length - 2)))
theorem PkV.below {L : List (Bool × ByteArray)} {m : Int} {v : Value} {W W' : World} (h : PkV L m v W) (hb : Below W.heap.size W W') : PkV L m v W' := by
  rcases h with h | ⟨h0, Ws, g, c, h1, h2, h3⟩
  · exact .inl h
  · exact .inr ⟨h0, Ws, g, c, h1, h2, h3.belowM hb⟩
theorem PkV.of {L : List (Bool × ByteArray)} {m : Int} {w w' : World} {e : Ending} (h : PkP L m w e w') : ∃ v, e = .returned (.tuple #[v, .int .i64 (limE L m)]) ∧ PkV L m v w' ∧ Below w.heap.size w w' := by
  obtain ⟨h1, h2, h3⟩ := h
  by_cases h0 : limE L m = 0
  · obtain ⟨Ws, g, c, e1, e2, -, -, e3⟩ := h2 h0
    exact ⟨_, by rw [h0]; exact e2, .inr ⟨h0, Ws, g, c, e1, rfl, e3⟩, h3⟩
  · exact ⟨_, h1 h0, .inl ⟨h0, rfl⟩, h3⟩
theorem LCs.ex {L : List (Bool × ByteArray)} {m : Int} : ∃ s, ∀ w e w', LCs L m w e w' → e = .returned (.tuple #[.agg #[.bool false, .string s], .int .i64 (limE L m)]) ∧ Below w.heap.size w w' := by
  by_cases h0 : limE L m = 0
  · obtain ⟨hck, k, rfl, -⟩ := limE_ok h0
    obtain ⟨-, -, Ws, rfl⟩ := chkW_ok hck
    refine ⟨mg (limC Ws (Int.toNat (k : Int))), fun w e w' ⟨_, h2, h3⟩ => ?_⟩
    obtain ⟨Us, e1, e2⟩ := h2 h0
    obtain rfl := VLinj9 e1
    rw [h0]
    exact ⟨e2, h3⟩
  · exact ⟨⟨#[]⟩, fun w e w' ⟨h1, _, h3⟩ => ⟨h1 h0, h3⟩⟩
theorem LPn.ex {L : List (Bool × ByteArray)} {m : Int} : ∃ b s, ∀ w e w', LPn L m w e w' → e = .returned (.tuple #[.agg #[.bool b, .string s], .int .i64 (limE L m)]) ∧ Below w.heap.size w w' := by
  by_cases h0 : limE L m = 0
  · obtain ⟨hck, k, rfl, -⟩ := limE_ok h0
    obtain ⟨-, -, Ws, rfl⟩ := chkW_ok hck
    refine ⟨sgn ((limC Ws (Int.toNat (k : Int)) : Int) - (hufC Ws : Int)), mg ((limC Ws (Int.toNat (k : Int)) : Int) - (hufC Ws : Int)).natAbs, fun w e w' ⟨_, h2, h3⟩ => ?_⟩
    obtain ⟨Us, e1, e2⟩ := h2 h0
    obtain rfl := VLinj9 e1
    rw [h0]
    exact ⟨e2, h3⟩
  · exact ⟨false, ⟨#[]⟩, fun w e w' ⟨h1, _, h3⟩ => ⟨h1 h0, h3⟩⟩
end Go.Proofs.Gv
