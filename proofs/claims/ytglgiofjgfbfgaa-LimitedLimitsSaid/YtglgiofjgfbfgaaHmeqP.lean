/- slices.Clone of integers: a row of one's own. -/
import Derived.Test.YtglgiofjgfbfgaaHmer
import Derived.OwnWalk
import Derived.Lib.SliceRun
import Derived.Laws.StructEq
import Derived.Deep.QuietTactic
set_option linter.unusedSimpArgs false
set_option linter.unusedVariables false
namespace Go.Proofs.Gv
open Go Go.RowKit Go.Maps

theorem infoI : (Try.prog.info? 29).map (fun i => (i.zero, i.size, i.bytes)) = some (some (.agg #[.bool false, .string ⟨#[]⟩]), 2, 24) := by kernel_rfl
/-- Integers as cells. -/
def inV : List (Bool × ByteArray) → List Value
  | [] => []
  | x :: r => .bool x.1 :: .string x.2 :: inV r
theorem inV_len : ∀ l : List (Bool × ByteArray), (inV l).length = l.length * 2
  | [] => rfl
  | x :: r => by simp only [inV, List.length_cons, inV_len r]; omega
theorem inV_snoc : ∀ (l : List (Bool × ByteArray)) (x : Bool × ByteArray), inV (l ++ [x]) = inV l ++ [.bool x.1, .string x.2]
  | [], x => rfl
  | y :: l, x => by simp only [List.cons_append, inV, inV_snoc l x]
theorem inV_at : ∀ (l : List (Bool × ByteArray)) (i : Nat) (n : Bool) (s : ByteArray), l[i]? = some (n, s) → (inV l)[i * 2]? = some (.bool n) ∧ (inV l)[i * 2 + 1]? = some (.string s)
  | x :: r, 0, n, s, h => by simp at h; subst h; exact ⟨rfl, rfl⟩
  | x :: r, i + 1, n, s, h => by
    have := inV_at r i n s (by simpa using h)
    rw [show (i + 1) * 2 = i * 2 + 1 + 1 by omega]
    simpa [inV] using this
theorem Sl.of_own {W : World} {base : Nat} {a : Option Addr} {c : Nat} {L : List (Bool × ByteArray)} (h : W.ownsRow base 29 2 (.slice a L.length c) L.length (inV L)) : Sl W a L := by
  intro i n s hi
  rcases h.2 with ⟨e0, h0⟩ | ⟨g, cap, cur, e0, hb, hg, hr⟩
  · have := (List.getElem?_eq_some_iff.1 hi).1; omega
  · cases e0
    obtain ⟨h1, h2⟩ := inV_at L i n s hi
    have key : ∀ j u, (inV L)[j]? = some u → W.cell? ⟨g, j, none⟩ = some u := fun j u hu => by
      rw [cell_of_row W g j cur _ (0, 0) hg]
      rw [← hr.2.2.2, List.getElem?_take] at hu
      split at hu
      · simpa using hu
      · cases hu
    have hadd : ∀ j, (⟨g, 0, none⟩ : Addr).add j = ⟨g, j, none⟩ := fun j => by unfold Addr.add; split <;> simp_all
    exact ⟨_, rfl, by rw [hadd]; exact key _ _ h1, by rw [hadd]; exact key _ _ h2⟩
end Go.Proofs.Gv

namespace Go.Proofs.Gv
open Go Go.RowKit Go.Maps

theorem BC.byGrown {W W' : World} {b : Nat} {l : List Value} {row : Option Nat} (h : BC W b l) (hg : W.grownBy W' row) (hr : row ≠ some b) : BC W' b l := BC.heap h (hg.block b h.lt (fun e => hr e.symm)) hg.size
theorem gSetB (w : World) (b o : Nat) (v : Value) : w.grownBy (w.setCell ⟨b, o, none⟩ v) (some b) :=
  ⟨rfl, rfl, rfl, by simp, fun i _ hne => by
    rw [World.setCell]
    simp only [Array.getElem?_modify]
    rw [if_neg (fun e => hne (by rw [e]))]⟩
theorem gDrewB {w w' : World} {row : Option Nat} (h : w.grownBy w' row) : w.grownBy w'.drew row := ⟨h.os, h.tape, h.output, h.size, h.block⟩
theorem gRow {w w' : World} (h : Below w.heap.size w w') (row : Option Nat) : w.grownBy w' row := ⟨h.os, h.tape, h.output, h.size, fun i hi _ => h.block i hi⟩
theorem natV_is {l : List Nat} {i x : Nat} (h : l[i]? = some x) : (natV l)[i]? = some (.int .i64 (x : Int)) := by unfold natV; rw [List.getElem?_map, h]; rfl
theorem natV_length (l : List Nat) : (natV l).length = l.length := by unfold natV; rw [List.length_map]
end Go.Proofs.Gv

namespace Go.Proofs.Gv
open Go Go.RowKit Go.Maps

theorem eqM (a b c d : Int) (w : World) :
    (Op.equalIn 10000 145 (.agg #[.int .i64 a, .int .i64 b]) (.agg #[.int .i64 c, .int .i64 d])).run Try.prog w = .ok (a == c && b == d) w := by
  have hS : Try.prog.underlying 145 = some (.struct (Try.prog.fieldsOf 145)) := by kernel_rfl
  have hp : Try.prog.stoodInHeld 145 = false := by kernel_rfl
  have u4 := Try.underlying3
  have a4 := Try.isAgg3
  have z4 := Try.sizeOf3
  rw [show (10000 : Nat) = 9999 + 1 from rfl, run_equalIn_agg w 9999 145 _ _ hS hp]
  simp only [Program.fieldsOf, Try.underlying145]
  go_simp
  by_cases h : a = c <;> by_cases h2 : b = d <;> simp [h, h2]
@[go_sem ↓] theorem run_neqM (a b c d : Int) (w : World) :
    (binOp .neq 145 (.agg #[.int .i64 a, .int .i64 b]) (.agg #[.int .i64 c, .int .i64 d])).run Try.prog w = .ok (.bool (!(a == c && b == d))) w := by
  rw [run_neq_struct, eqM]; rfl
@[go_sem] theorem eqGuardM : Try.prog.eqGuardType Try.prog.depth 145 = false := by kernel_rfl
theorem below_drewN {n k : Nat} {a b : World} (h : Below n a b) : Below n a (b.drewN k) := ⟨h.os, h.tape, h.output, h.size, h.block⟩
end Go.Proofs.Gv
