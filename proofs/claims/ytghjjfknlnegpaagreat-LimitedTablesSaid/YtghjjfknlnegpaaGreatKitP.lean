/- Texts joined. -/
import Derived.WalkKit
import Derived.WalkSpells
import Derived.WalkLawsBesides
import Derived.Lib.Hide
import Derived.Deep.Draws
import Derived.Deep.OwnRows
import Derived.Laws.Rows
import Derived.BigQuiet
import Derived.Deep.QuietTactic
import Derived.ChangeAlike
import Derived.Laws.BitsAllLaws
import Derived.RegionTactic
import Derived.Deep.DeepCutAuto
import Derived.Deep.CutBlock
import Derived.Deep.LoopGhost
import Derived.Deep.RegionWith
import Derived.Maps.AppendAt
set_option linter.unusedSimpArgs false
set_option linter.unusedVariables false
namespace Go.Proofs.Gv

/-- The base. -/
def B32 : Nat := 4294967296
theorem B32_pos : 0 < B32 := by decide
/-- Digit i of x. -/
def D (x i : Nat) : Nat := x / B32 ^ i % B32
/-- The number of digits of x. -/
def nlen (x : Nat) : Nat := if h : x = 0 then 0 else nlen (x / B32) + 1
termination_by x
decreasing_by exact Nat.div_lt_self (by omega) (by decide)

theorem nlen_zero : nlen 0 = 0 := by rw [nlen]; simp
theorem div_step (x k : Nat) : x / B32 ^ k = x / B32 ^ (k + 1) * B32 + D x k := by
  rw [Nat.pow_succ, ← Nat.div_div_eq_div_mul]
  unfold D
  have := Nat.div_add_mod (x / B32 ^ k) B32
  rw [Nat.mul_comm] at this
  exact this.symm

/-- The number with the first n digits of f. -/
def val (f : Nat → Nat) : Nat → Nat
  | 0 => 0
  | n + 1 => val f n + f n * B32 ^ n

end Go.Proofs.Gv

namespace Go.Proofs.Gv
open Go Go.RowKit

/-- The slice with the address A and n elements reads, word by word, as f, below block B. -/
def Rd (w : World) (B : Nat) (A : Option Addr) (n : Nat) (f : Nat → Nat) : Prop :=
  0 < n → ∃ g, A = some ⟨g, 0, none⟩ ∧ g < B ∧ ∀ j, j < n → w.cell? ⟨g, j, none⟩ = some (.int .u32 (f j : Nat))

/-- The slice with the address A and the capacity c reads as the natural number x. -/
structure Nt (w : World) (B : Nat) (A : Option Addr) (c x : Nat) : Prop where
  le : nlen x ≤ c
  bd : c ≤ 1000000000
  rd : Rd w B A (nlen x) (D x)

section
variable {w w' : World} {B B' : Nat} {A : Option Addr} {n c x : Nat} {f g : Nat → Nat}
theorem Rd.keep (h : Rd w B A n f) (hk : ∀ p : Addr, p.block < B → w'.cell? p = w.cell? p) : Rd w' B A n f := fun hn => by
  obtain ⟨b, e, hb, hc⟩ := h hn
  exact ⟨b, e, hb, fun j hj => (hk ⟨b, j, none⟩ hb).trans (hc j hj)⟩
theorem Rd.more (h : Rd w B A n f) (hB : B ≤ B') : Rd w B' A n f := fun hn => by
  obtain ⟨b, e, hb, hc⟩ := h hn
  exact ⟨b, e, by omega, hc⟩
theorem Rd.below (h : Rd w B A n f) (hb : Below B w w') : Rd w' B A n f := h.keep fun _ hp => hb.cell hp
theorem Rd.congr (h : Rd w B A n f) (e : ∀ i, i < n → f i = g i) : Rd w B A n g := fun hn => by
  obtain ⟨b, e', hb, hc⟩ := h hn
  exact ⟨b, e', hb, fun j hj => by rw [hc j hj, e j hj]⟩
theorem Nt.below (h : Nt w B A c x) (hb : Below B w w') : Nt w' B A c x := ⟨h.le, h.bd, h.rd.below hb⟩
theorem Nt.more (h : Nt w B A c x) (hB : B ≤ B') : Nt w B' A c x := ⟨h.le, h.bd, h.rd.more hB⟩
theorem Nt.zero (w : World) (B : Nat) (A : Option Addr) (c : Nat) (hc : c ≤ 1000000000) : Nt w B A c 0 := ⟨by rw [nlen_zero]; omega, hc, by rw [nlen_zero]; intro h; omega⟩
end

/-- w' is w behind some draws. -/
def Dr (w w' : World) : Prop := ∃ n, w' = w.drewN n
theorem Dr.refl (w : World) : Dr w w := ⟨0, rfl⟩
theorem Dr.of (w : World) (n : Nat) : Dr w (w.drewN n) := ⟨n, rfl⟩
theorem Dr.more {w w' : World} (h : Dr w w') (n : Nat) : Dr w (w'.drewN n) := by
  obtain ⟨m, rfl⟩ := h
  exact ⟨m + n, World.drewN_drewN ..⟩
theorem Dr.one {w w' : World} (h : Dr w w') : Dr w w'.drew := h.more 1

/-- The words that a row holds. -/
def u32s (f : Nat → Nat) (i : Nat) : Value := .int .u32 (f i : Nat)

end Go.Proofs.Gv
