/- Words for memory: a slice that reads as the digits of a number; a row of the call's own. -/
import Derived.WalkKit
import Derived.WalkSpells
import Derived.WalkLawsBesides
import Derived.Lib.Hide
import Derived.Deep.Draws
import Derived.Deep.OwnRows
import Derived.Laws.Rows
import Derived.BigQuiet
import Derived.Deep.QuietTactic
import Derived.ChangeAlike
import Derived.Laws.BitsAllLaws
import Derived.RegionTactic
import Derived.Deep.DeepCutAuto
import Derived.Deep.CutBlock
import Derived.Deep.LoopGhost
import Derived.Deep.RegionWith
import Derived.Maps.AppendAt
import Derived.Test.YtglgiofjgfbfgaaNumP
import Derived.Test.YtglgiofjgfbfgaaRows
set_option linter.unusedSimpArgs false
set_option linter.unusedVariables false
namespace Go.Proofs.Gv
open Go Go.RowKit

/-- The slice with the address A and n elements reads, word by word, as f, below block B. -/
def Rd (w : World) (B : Nat) (A : Option Addr) (n : Nat) (f : Nat → Nat) : Prop :=
  0 < n → ∃ g, A = some ⟨g, 0, none⟩ ∧ g < B ∧ ∀ j, j < n → w.cell? ⟨g, j, none⟩ = some (.int .u32 (f j : Nat))

/-- The slice with the address A and the capacity c reads as the natural number x. -/
structure Nt (w : World) (B : Nat) (A : Option Addr) (c x : Nat) : Prop where
  le : nlen x ≤ c
  bd : c ≤ 1000000000
  rd : Rd w B A (nlen x) (D x)

section
variable {w w' : World} {B B' : Nat} {A : Option Addr} {n c x : Nat} {f g : Nat → Nat}
theorem Rd.keep (h : Rd w B A n f) (hk : ∀ p : Addr, p.block < B → w'.cell? p = w.cell? p) : Rd w' B A n f := fun hn => by
  obtain ⟨b, e, hb, hc⟩ := h hn
  exact ⟨b, e, hb, fun j hj => (hk ⟨b, j, none⟩ hb).trans (hc j hj)⟩
theorem Rd.more (h : Rd w B A n f) (hB : B ≤ B') : Rd w B' A n f := fun hn => by
  obtain ⟨b, e, hb, hc⟩ := h hn
  exact ⟨b, e, by omega, hc⟩
theorem Rd.below (h : Rd w B A n f) (hb : Below B w w') : Rd w' B A n f := h.keep fun _ hp => hb.cell hp
theorem Rd.congr (h : Rd w B A n f) (e : ∀ i, i < n → f i = g i) : Rd w B A n g := fun hn => by
  obtain ⟨b, e', hb, hc⟩ := h hn
  exact ⟨b, e', hb, fun j hj => by rw [hc j hj, e j hj]⟩
theorem Nt.below (h : Nt w B A c x) (hb : Below B w w') : Nt w' B A c x := ⟨h.le, h.bd, h.rd.below hb⟩
theorem Nt.more (h : Nt w B A c x) (hB : B ≤ B') : Nt w B' A c x := ⟨h.le, h.bd, h.rd.more hB⟩
theorem Nt.next (h : Nt w w.heap.size A c x) (hb : Below w.heap.size w w') : Nt w' w'.heap.size A c x := (h.below hb).more hb.size
theorem Nt.zero (w : World) (B : Nat) (A : Option Addr) (c : Nat) (hc : c ≤ 1000000000) : Nt w B A c 0 := ⟨by rw [nlen_zero]; omega, hc, by rw [nlen_zero]; intro h; omega⟩
end

/-- w' is w behind some draws. -/
def Dr (w w' : World) : Prop := ∃ n, w' = w.drewN n
theorem Dr.refl (w : World) : Dr w w := ⟨0, rfl⟩
theorem Dr.of (w : World) (n : Nat) : Dr w (w.drewN n) := ⟨n, rfl⟩
theorem Dr.more {w w' : World} (h : Dr w w') (n : Nat) : Dr w (w'.drewN n) := by
  obtain ⟨m, rfl⟩ := h
  exact ⟨m + n, World.drewN_drewN ..⟩
theorem Dr.one {w w' : World} (h : Dr w w') : Dr w w'.drew := h.more 1

/-- The words that a row holds. -/
def u32s (f : Nat → Nat) (i : Nat) : Value := .int .u32 (f i : Nat)

/-- A store into the next place of a row. -/
theorem row_step {w : World} {g t n k : Nat} {F G : Nat → Nat} {V : Int} (h : w.rowIs g t n (u32s fun j => if j < k then F j else G j)) (hv : V = (F k : Nat)) :
    (w.setCell ⟨g, k, none⟩ (.int .u32 V)).rowIs g t n (u32s fun j => if j < k + 1 then F j else G j) := by
  subst hv
  refine (h.set k _).congr fun i _ => ?_
  unfold u32s
  dsimp only
  by_cases e : i = k
  · subst e; simp
  · rw [if_neg e]
    by_cases e2 : i < k
    · rw [if_pos e2, if_pos (by omega)]
    · rw [if_neg e2, if_neg (by omega)]

theorem row_all {w : World} {g t n : Nat} {F G : Nat → Nat} (h : w.rowIs g t n (u32s fun j => if j < n then F j else G j)) : w.rowIs g t n (u32s F) :=
  h.congr fun i hi => by unfold u32s; dsimp only; rw [if_pos hi]

/-- A natural number comes back, in memory below the new heap's end; nothing that was there has turned. -/
def RetNat (w : World) (z : Nat) (e : Ending) (w' : World) : Prop :=
  ∃ A c, e = .returned (.slice A (nlen z) c) ∧ Nt w' w'.heap.size A c z ∧ Below w.heap.size w w'

/-- The length of a slice: for a loop's measure. -/
def slLen : Value → Nat | .slice _ n _ => n | _ => 0

theorem Rd.of_row {w : World} {g t n m : Nat} {f : Nat → Nat} (h : w.rowIs g t n (u32s f)) (hm : m ≤ n) : Rd w w.heap.size (some ⟨g, 0, none⟩) m f :=
  fun _ => ⟨g, rfl, h.lt, fun j hj => h.cell (by omega)⟩

/-- A row of words is the number that its digits make. -/
theorem Nt.of_row {w : World} {g t n c : Nat} {f : Nat → Nat} (h : w.rowIs g t n (u32s f)) (hc : n ≤ c) (hb : c ≤ 1000000000) (hf : ∀ i, i < n → f i < B32) :
    Nt w w.heap.size (some ⟨g, 0, none⟩) c (val f n) := by
  have h1 : nlen (val f n) ≤ n := nlen_le_iff.2 (val_lt hf)
  exact ⟨by omega, hb, (Rd.of_row h h1).congr fun i hi => (D_val hf i (by omega)).symm⟩

/-- A row of the digits of z. -/
theorem Nt.of_digits {w : World} {g t n z : Nat} (h : w.rowIs g t n (u32s (D z))) (hz : z < B32 ^ n) (hn : n ≤ 1000000000) : Nt w w.heap.size (some ⟨g, 0, none⟩) n z :=
  ⟨nlen_le_iff.2 hz, hn, Rd.of_row h (nlen_le_iff.2 hz)⟩

theorem RetNat.of_row {w w' : World} {g t n z : Nat} (h : w'.rowIs g t n (u32s (D z))) (hz : z < B32 ^ n) (hn : n ≤ 1000000000) (hb : Below w.heap.size w w') :
    RetNat w z (.returned (.slice (some ⟨g, 0, none⟩) (nlen z) n)) w' := ⟨_, _, rfl, Nt.of_digits h hz hn, hb⟩

end Go.Proofs.Gv

namespace Go.Proofs.Gv
open Go Go.RowKit

theorem Try.info68z : (Try.prog.info? 68).map (fun i => (i.zero, i.size, i.bytes)) = some (some (.int .u32 0), 1, 4) := by kernel_rfl

theorem mk_nat (N : Int) (n : Nat) (e : N = n) (h : n ≤ 1000000000) (w : World) :
    (Instr.makeSlice 73 (.int .i64 N) (.int .i64 N)).run Try.prog w = .ok (.slice (some ⟨w.heap.size, 0, none⟩) n n) (w.alloc (.cells (madeCells #[.int .u32 0] n) 68)) := by
  subst e
  exact run_make_row' (P := Try.prog) 73 68 (.int .u32 0) 4 Try.underlying73 Try.info68z rfl .i64 .i64 n (by omega) (by omega) w
/-- What make lays for a natural: zeros. -/
theorem made_row (w : World) (n : Nat) : (w.alloc (.cells (madeCells #[.int .u32 0] n) 68)).rowIs w.heap.size 68 n (u32s fun _ => 0) := World.rowIs_made w _ n _

theorem trim_step {f : Nat → Nat} {m : Nat} (h0 : 0 < m) (h : f (m - 1) = 0) : val f (m - 1) = val f m := by
  obtain ⟨k, rfl⟩ : ∃ k, m = k + 1 := ⟨m - 1, by omega⟩
  rw [Nat.add_sub_cancel] at h ⊢
  rw [val, h]; simp

theorem trim_stop {f : Nat → Nat} {m : Nat} (h0 : 0 < m) (hf : ∀ i, i < m → f i < B32) (h : f (m - 1) ≠ 0) : nlen (val f m) = m := by
  obtain ⟨k, rfl⟩ : ∃ k, m = k + 1 := ⟨m - 1, by omega⟩
  rw [Nat.add_sub_cancel] at h
  have h1 := nlen_le_iff.2 (val_lt hf)
  have h2 : k < nlen (val f (k + 1)) := by
    rw [lt_nlen_iff, val]
    have : 1 * B32 ^ k ≤ f k * B32 ^ k := Nat.mul_le_mul_right _ (by omega)
    omega
  omega

set_option maxHeartbeats 400000 in
theorem trim_any (A : Option Addr) (n c : Nat) (f : Nat → Nat) (w : World) (hr : Rd w w.heap.size A n f) (hf : ∀ i, i < n → f i < B32) (hc : n ≤ c) (hn : c ≤ 1000000000) :
    Calls Try.prog 88 #[.slice A n c] w fun e w' => e = .returned (.slice A (nlen (val f n)) c) ∧ w = w' := by
  have Hf := Lib.hid hf
  clear hf
  go_enter Try.func88, Try.ntmps88
  go_wp2
  go_loop [0] (fun v => ∃ m : Nat, m ≤ n ∧ v = .slice A m c ∧ val f m = val f n) (fun v => slLen v)
  case atStart => exact ⟨n, Nat.le_refl _, rfl, rfl⟩
  case round =>
    obtain ⟨m, hm, rfl, ht⟩ := hrel
    have Ht := Lib.hid ht
    clear ht
    by_cases h0 : 0 < m
    · obtain ⟨g, rfl, hg, hcell⟩ := hr (by omega)
      have hcm := hcell (m - 1) (by omega)
      clear hcell hr
      go_wp2
      · have hz : ((f (m - 1) : Nat) == (0 : Int)) = true := by assumption
        go_round
        case rel => exact ⟨m - 1, by omega, rfl, (trim_step h0 (by simpa using hz)).trans Ht.out⟩
        case measure => simp [slLen]; omega
      · go_ret
        have hz : ((f (m - 1) : Nat) == (0 : Int)) = false := by assumption
        refine ⟨?_, rfl⟩
        rw [← Ht.out, trim_stop h0 (fun i hi => Hf.out i (by omega)) (fun e => by rw [e] at hz; cases hz)]
        rfl
    · have e : m = 0 := by omega
      subst e
      go_wp2
      go_ret
      have h1 : val f n = 0 := Ht.out.symm
      exact ⟨by rw [h1, nlen_zero]; rfl, rfl⟩

/-- At a row of the digits of z. -/
theorem trim_row {w : World} {g t n z : Nat} (h : w.rowIs g t n (u32s (D z))) (hz : z < B32 ^ n) (hn : n ≤ 1000000000) :
    Calls Try.prog 88 #[.slice (some ⟨g, 0, none⟩) n n] w fun e w' => e = .returned (.slice (some ⟨g, 0, none⟩) (nlen z) n) ∧ w = w' := by
  have := trim_any (some ⟨g, 0, none⟩) n n (D z) w (Rd.of_row h (Nat.le_refl _)) (fun i _ => D_lt z i) (Nat.le_refl _) hn
  rwa [val_D, Nat.mod_eq_of_lt hz] at this
end Go.Proofs.Gv
