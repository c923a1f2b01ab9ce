/- Maps of free nodes as functions. -/
import Derived.Test.YtdflafnfaccciaaMapKP
import Derived.Test.YtdflafnfaccciaaHdep
import Derived.Test.YtdflafnfaccciaaHmer
set_option linter.unusedSimpArgs false
set_option linter.unusedVariables false
namespace Go.Proofs.Gv
open Go Go.RowKit Go.Maps

/-- A slice value of merges, wherever it lies. -/
def MrgA (W : World) (v : Value) (ps : List (Int × Int)) : Prop := ∃ (a : Option Addr) (c : Nat), v = .slice a ps.length c ∧ ∀ (i : Nat) (x : Value), (mrgV ps)[i]? = some x → ∃ A, a = some A ∧ W.cell? (A.add i) = some x
theorem MrgAt.a {W : World} {v : Value} {ps : List (Int × Int)} (h : MrgAt W v ps) : MrgA W v ps := by
  obtain ⟨a, c, rfl, hat⟩ := h
  refine ⟨a, c, rfl, fun i x hi => ?_⟩
  obtain ⟨g, rfl, hc⟩ := hat i x hi
  refine ⟨_, rfl, ?_⟩
  have e : (⟨g, 0, none⟩ : Addr).add i = ⟨g, i, none⟩ := by unfold Addr.add; by_cases h : i = 0 <;> simp [h]
  rw [e]; exact hc
theorem MrgA.below {W W' : World} {v : Value} {ps : List (Int × Int)} (h : MrgA W v ps) (hb : Below W.heap.size W W') : MrgA W' v ps := by
  obtain ⟨a, c, rfl, hat⟩ := h
  refine ⟨a, c, rfl, fun i x hi => ?_⟩
  obtain ⟨A, rfl, hc⟩ := hat i x hi
  exact ⟨A, rfl, (hb.cell (World.block_lt_of_cell? W _ hc)).trans hc⟩
/-- How a bool in a map reads. -/
def RB (v : Value) : Option (DataW Unit × List MemPlace) := match v with
  | .bool x => some (.lit (.bool x), [])
  | _ => none
theorem RB_inv {v : Value} {x : Bool} {ps : List MemPlace} (h : RB v = some (.lit (.bool x), ps)) : v = .bool x := by
  unfold RB at h
  split at h
  · simp at h; rw [h.1]
  · cases h
theorem zeroB (w : World) : (zeroValue 4).run Try.prog w = .ok (.bool false) w := by kernel_rfl
theorem block_add (A : Addr) (n : Nat) : (A.add n).block = A.block := by unfold Addr.add; split <;> rfl
def fr (l : List (Nat × Bool)) (x : Int) : Option (DataW Unit) := if freeI l x then some (.lit (.bool true)) else none
theorem fr_some (l : List (Nat × Bool)) (x : Int) : (fr l x).isSome = freeI l x := by unfold fr; cases freeI l x <;> rfl
theorem fr_get (l : List (Nat × Bool)) (x : Int) : (fr l x).getD (.lit (.bool false)) = .lit (.bool (freeI l x)) := by unfold fr; cases freeI l x <;> rfl
abbrev MB (W : World) (b n sz : Nat) (f : Int → Option (DataW Unit)) : Prop := KM Try.prog 3 RB klI W b n sz f
theorem keyI {x : Int} (h : (Lit.int .i64 x).wf = true) : keyOf Try.prog 3 (.int .i64 x) = some (klI x) := keyOf_int_mk Try.underlying3 h
theorem wfN {n : Nat} (h : n ≤ 1000000000) : (Lit.int .i64 (n : Int)).wf = true := by
  have h1 : IntKind.i64.min = -9223372036854775808 := rfl
  have h2 : IntKind.i64.max = 9223372036854775807 := rfl
  simp [Lit.wf, h1, h2]; omega
theorem MB.look {W : World} {b n sz : Nat} {l : List (Nat × Bool)} (h : MB W b n sz (fr l)) {x : Int} (hx : (Lit.int .i64 x).wf = true) :
    (Instr.lookup 48 (.map (some b)) (.int .i64 x) false).run Try.prog W = .ok (.bool (freeI l x)) W := by
  obtain ⟨v, ps, h1, h2⟩ := KM.look h lawI Try.underlying48 (zeroB W) (show RB (.bool false) = some (.lit (.bool false), []) from rfl) (x := x) (keyI hx)
  rw [fr_get] at h2
  rw [h1, RB_inv h2]
theorem freeI_joinL {l : List (Nat × Bool)} {i j : Nat} (hi : i < l.length) (hj : j < l.length) (x : Int) : freeI (joinL l i j) x = (freeI l x && decide (x ≠ i) && decide (x ≠ j)) := by
  unfold joinL
  rw [freeI_set (by rw [List.length_set]; exact hj), freeI_set hi]
  by_cases h1 : x = j
  · subst h1; simp
  · by_cases h2 : x = i
    · subst h2; simp
    · simp [h1, h2]
theorem freeI_snoc (l : List (Nat × Bool)) (s : Nat) (x : Int) : freeI (l ++ [(s, true)]) x = (freeI l x || decide (x = l.length)) := by
  unfold freeI
  by_cases h0 : 0 ≤ x
  · obtain ⟨m, rfl⟩ : ∃ m : Nat, x = m := ⟨x.toNat, by omega⟩
    simp only [Int.toNat_natCast]
    by_cases h1 : m < l.length
    · rw [List.getElem?_append_left h1]
      have : ¬ ((m : Int) = l.length) := by omega
      simp [this]
    · by_cases h2 : m = l.length
      · subst h2; simp
      · rw [List.getElem?_eq_none (by simp; omega), List.getElem?_eq_none (by omega)]
        have : ¬ ((m : Int) = l.length) := by omega
        simp [this]
  · have : ¬ (x = (l.length : Int)) := by omega
    simp [h0, this]
theorem freeI_lt {l : List (Nat × Bool)} {x : Int} (h : freeI l x = true) : 0 ≤ x ∧ x.toNat < l.length := by
  obtain ⟨i, rfl, h1⟩ := freeI_spec h
  have := (List.getElem?_eq_some_iff.1 h1).1
  simp; omega
theorem joinL_len (l : List (Nat × Bool)) (i j : Nat) : (joinL l i j).length = l.length := by unfold joinL; simp
theorem stepJ_len (l : List (Nat × Bool)) (x : Int × Int) : (stepJ l x).length = l.length + 1 := by unfold stepJ; simp [joinL_len]
theorem fr_step {l : List (Nat × Bool)} {x : Int × Int} (h1 : freeI l x.1 = true) (h2 : freeI l x.2 = true) (y : Int) :
    fr (stepJ l x) y = if y = (l.length : Int) then some (.lit (.bool true)) else if y = x.2 then none else if y = x.1 then none else fr l y := by
  obtain ⟨a1, a2⟩ := freeI_lt h1
  obtain ⟨b1, b2⟩ := freeI_lt h2
  unfold fr stepJ
  rw [freeI_snoc, joinL_len, freeI_joinL a2 b2]
  have q1 : (x.1.toNat : Int) = x.1 := by omega
  have q2 : (x.2.toNat : Int) = x.2 := by omega
  rw [q1, q2]
  by_cases e : y = (l.length : Int)
  · simp [e]
  · by_cases e2 : y = x.2
    · rw [if_neg e, if_pos e2]
      rw [e2] at e ⊢
      simp [e]
    · by_cases e1 : y = x.1
      · rw [if_neg e, if_neg e2, if_pos e1]
        rw [e1] at e ⊢
        simp [e]
      · rw [if_neg e, if_neg e2, if_neg e1]
        simp [e, e1, e2]
theorem fr_made (n : Nat) (Ws : List Nat) (h : Ws.length = n) (y : Int) : fr (Ws.map fun w => (w, true)) y = if 0 ≤ y ∧ y < n then some (.lit (.bool true)) else none := by
  have e : freeI (Ws.map fun w => (w, true)) y = decide (0 ≤ y ∧ y < n) := by
    unfold freeI
    by_cases h0 : 0 ≤ y
    · obtain ⟨m, rfl⟩ : ∃ m : Nat, y = m := ⟨y.toNat, by omega⟩
      rw [List.getElem?_map, Int.toNat_natCast]
      by_cases h1 : m < Ws.length
      · rw [List.getElem?_eq_getElem h1]; simp; omega
      · rw [List.getElem?_eq_none (by omega)]; simp; omega
    · have : ¬ (0 ≤ y ∧ y < n) := fun h => h0 h.1
      simp [h0]
  unfold fr
  rw [e]
  simp
theorem joinsJ_drop {chk : Bool} {ps : List (Int × Int)} {i : Nat} {x : Int × Int} (h : ps[i]? = some x) (l : List (Nat × Bool)) :
    joinsJ chk (ps.drop i) l = if okJ chk l x then (joinsJ chk (ps.drop (i + 1)) (stepJ l x)).map (nodesJ l x :: ·) else none := by
  obtain ⟨hi, e⟩ := List.getElem?_eq_some_iff.1 h
  rw [List.drop_eq_getElem_cons hi, e]
  rfl
/-- What holds between the rounds of joins. -/
structure JR (w : World) (b n : Nat) (chk : Bool) (J : List (Nat × Bool) → World → Prop) (row0 : Option Nat) (all : Option (List (List (Nat × Nat)))) (ps : List (Int × Int)) (i : Nat) (v10 : Value) (wr : World) (l : List (Nat × Bool)) (pre : List (List (Nat × Nat))) (L : List Value) : Prop where
  hl : l.length = n + i
  hm : ∃ sz, MB wr b (n + i) sz (fr l)
  hj : J l wr
  heq : all = (joinsJ chk (ps.drop i) l).map (pre ++ ·)
  own : wr.ownsRow w.heap.size 26 1 v10 i L
  rows : Rows wr (b + 1) v10.ownBlock L (pre.map (·.map (·.1)))
  gr : w.grownBy wr row0
  neb : v10.ownBlock ≠ some b
/-- What joins answers. -/
def JoinPost (w : World) (row0 : Option Nat) (all : Option (List (List (Nat × Nat)))) (e : Ending) (w' : World) : Prop := match all with
  | none => e = .returned (.tuple #[.slice none 0 0, .bool false]) ∧ w.grownBy w' row0
  | some ms => ∃ ov L, e = .returned (.tuple #[ov, .bool true]) ∧ RowAt w' ov L ∧ Rows w' w.heap.size none L (ms.map (·.map (·.1))) ∧ w.grownBy w' row0
/-- No condition. -/
def JD (_ : List (Nat × Bool)) (_ : World) : Prop := True
theorem dep1_any (m : Value) (n : Int) (x y : Int) (w : World) : Calls Try.prog 18 #[m, .int .i64 n, .agg #[.int .i64 x, .int .i64 y]] w fun e w' => e = .returned (.bool true) ∧ Below w.heap.size w w' := by
  go_enter Try.func18, Try.ntmps18
  go_wp2
  go_ret
  exact ⟨rfl, (Below.refl _ _).alloc (Nat.le_refl _) _⟩
end Go.Proofs.Gv
