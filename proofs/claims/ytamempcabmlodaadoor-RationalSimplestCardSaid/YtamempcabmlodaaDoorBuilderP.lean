/- Add, Mul, Of at canonical integers. -/
import Derived.Test.YtamempcabmlodaaDoorIntCP
import Derived.Test.YtamempcabmlodaaDoorIntEqP
import Derived.Test.YtamempcabmlodaaDoorDivideP
import Derived.Test.YtamempcabmlodaaDoorAddP
import Derived.Test.YtamempcabmlodaaDoorMulP
import Derived.Laws.BitsLemmas
import Derived.Laws.CopyOwn
import Derived.BigRegion
import Derived.Test.YtamempcabmlodaaDoorCompareP
import Derived.Deep.RegionHeld3
import Derived.Test.YtamempcabmlodaaDoorTrimP
import Derived.Test.YtamempcabmlodaaDoorProg
import Derived.Laws.IdiomStrings
import Derived.Laws.BytesArg
import Derived.Sort.Row
import Derived.Test.YtamempcabmlodaaDoorShelf
import Derived.Lib.Builder
import Derived.Shelf.Strings.Builder1
set_option linter.unusedSimpArgs false
set_option linter.unusedVariables false
namespace Go.Proofs.Gv
open Go Go.RowKit

theorem mg_zero : mg 0 = ⟨#[]⟩ := by
  have h := byt_len_le 0 0 (by decide)
  have : byt 0 = [] := List.eq_nil_of_length_eq_zero (by omega)
  unfold mg; rw [this]
end Go.Proofs.Gv

namespace Go.Proofs.Gv
open Go Go.RowKit

/-- The bits of x. -/
def bl (x : Nat) : Nat := if nlen x = 0 then 0 else 32 * (nlen x - 1) + Lib.bitLen (D x (nlen x - 1))
theorem bl_zero : bl 0 = 0 := by simp [bl, nlen_zero]
theorem bl_spec {x : Nat} (h : x ≠ 0) : 0 < bl x ∧ 2 ^ (bl x - 1) ≤ x ∧ x < 2 ^ bl x := by
  have h0 : nlen x ≠ 0 := mt nlen_eq_zero.1 h
  obtain ⟨h1, h2⟩ := D_top h
  obtain ⟨a, b, c⟩ := bitLen_bounds 32 (D x (nlen x - 1)) (D_lt _ _) (by omega) (by omega)
  have e : bl x = 32 * (nlen x - 1) + Lib.bitLen (D x (nlen x - 1)) := by unfold bl; rw [if_neg h0]
  have hB : B32 ^ (nlen x - 1) = 2 ^ (32 * (nlen x - 1)) := by rw [Nat.pow_mul]; rfl
  have hle := Nat.div_mul_le_self x (B32 ^ (nlen x - 1))
  have hlt := Nat.lt_mul_div_succ x (pow_pos (nlen x - 1))
  rw [← h1] at hle hlt
  rw [e]
  refine ⟨by omega, ?_, ?_⟩
  · rw [show 32 * (nlen x - 1) + Lib.bitLen (D x (nlen x - 1)) - 1 = Lib.bitLen (D x (nlen x - 1)) - 1 + 32 * (nlen x - 1) by omega, Nat.pow_add, ← hB]
    exact Nat.le_trans (Nat.mul_le_mul_right _ b) hle
  · rw [Nat.pow_add, ← hB]
    exact Nat.lt_of_lt_of_le hlt (Nat.mul_le_mul_left _ c)
theorem bl_le_iff {x n : Nat} : bl x ≤ n ↔ x < 2 ^ n := by
  by_cases h : x = 0
  · subst h; rw [bl_zero]; simp [Nat.pow_pos]
  · obtain ⟨a, b, c⟩ := bl_spec h
    constructor
    · intro hn; exact Nat.lt_of_lt_of_le c (Nat.pow_le_pow_right (by decide) hn)
    · intro hn
      apply Classical.byContradiction
      intro hc
      have : 2 ^ n ≤ 2 ^ (bl x - 1) := Nat.pow_le_pow_right (by decide) (by omega)
      omega
theorem bl_bound (x : Nat) : bl x ≤ 32 * nlen x := by
  rw [bl_le_iff, Nat.pow_mul]
  exact lt_pow_nlen x
end Go.Proofs.Gv

namespace Go.Proofs.Gv
open Go Go.RowKit

open Classical in
/-- While the root is made: the box of n, the box of the digits, the result's block. -/
structure RtSt (w wr : World) (bx : Nat) (n x : Nat) (Ax : Option Addr) (cx : Nat) : Prop where
  cn : wr.cell? ⟨w.heap.size + 1, 0, none⟩ = some (.int .i64 n)
  cb : wr.cell? ⟨bx, 0, none⟩ = some (.slice Ax (nlen x) cx)
  nx : Nt wr wr.heap.size Ax cx x
  r0 : ∃ v, wr.cell? ⟨w.heap.size + 1 + 1, 0, none⟩ = some v
  r1 : ∃ v, wr.cell? ⟨w.heap.size + 1 + 1, 1, none⟩ = some v
  g0 : wr.frozen? ⟨w.heap.size + 1 + 1, 0, none⟩ = false
  g1 : wr.frozen? ⟨w.heap.size + 1 + 1, 1, none⟩ = false
  ln : w.heap.size + 1 + 1 < bx
  lx : bx < wr.heap.size
  be : Below w.heap.size w wr
theorem RtSt.next {w wr W' : World} {bx n x : Nat} {Ax : Option Addr} {cx : Nat} (h : RtSt w wr bx n x Ax cx) (hb : Below wr.heap.size wr W') : RtSt w W' bx n x Ax cx := by
  have h1 := h.ln
  have h2 := h.lx
  have h3 := h.be.size
  exact ⟨(hb.cell (p := ⟨w.heap.size + 1, 0, none⟩) (by show w.heap.size + 1 < _; omega)).trans h.cn, (hb.cell (p := ⟨bx, 0, none⟩) h2).trans h.cb, h.nx.next hb,
    h.r0.imp fun v hv => (hb.cell (p := ⟨w.heap.size + 1 + 1, 0, none⟩) (by show w.heap.size + 1 + 1 < _; omega)).trans hv, h.r1.imp fun v hv => (hb.cell (p := ⟨w.heap.size + 1 + 1, 1, none⟩) (by show w.heap.size + 1 + 1 < _; omega)).trans hv,
    (hb.frozen (p := ⟨w.heap.size + 1 + 1, 0, none⟩) (by show w.heap.size + 1 + 1 < _; omega)).trans h.g0, (hb.frozen (p := ⟨w.heap.size + 1 + 1, 1, none⟩) (by show w.heap.size + 1 + 1 < _; omega)).trans h.g1,
    h1, Nat.lt_of_lt_of_le h2 hb.size, h.be.trans (hb.mono h3)⟩
end Go.Proofs.Gv

namespace Go.Proofs.Gv
open Go

/-- The decimal digits of n, none of 0. -/
def dec (n : Nat) : List UInt8 := if h : n = 0 then [] else dec (n / 10) ++ [UInt8.ofNat (48 + n % 10)]
termination_by n
decreasing_by omega
/-- k decimal digits of n. -/
def pad (n : Nat) : Nat → List UInt8
  | 0 => []
  | k + 1 => pad (n / 10) k ++ [UInt8.ofNat (48 + n % 10)]
theorem dec_zero : dec 0 = [] := by rw [dec]; simp
theorem dec_pos {n : Nat} (h : n ≠ 0) : dec n = dec (n / 10) ++ [UInt8.ofNat (48 + n % 10)] := by rw [dec]; simp [h]
/-- One digit more, ahead. -/
theorem pad_front (n : Nat) : ∀ k, pad n (k + 1) = UInt8.ofNat (48 + n / 10 ^ k % 10) :: pad n k := by
  intro k
  induction k generalizing n with
  | zero => simp [pad]
  | succ k ih =>
    rw [pad, ih (n / 10)]
    rw [Nat.div_div_eq_div_mul, show 10 * 10 ^ k = 10 ^ (k + 1) by rw [Nat.pow_succ, Nat.mul_comm]]
    rfl
theorem dec_pad : ∀ (k n : Nat), n / 10 ^ k = 0 → (k = 0 ∨ 0 < n / 10 ^ (k - 1)) → dec n = pad n k := by
  intro k
  induction k with
  | zero =>
    intro n h _
    rw [Nat.pow_zero, Nat.div_one] at h
    subst h; rw [dec_zero]; rfl
  | succ k ih =>
    intro n h h2
    have h3 : 0 < n / 10 ^ k := by rcases h2 with h2 | h2; omega; simpa using h2
    have hn : n ≠ 0 := by intro e; subst e; simp at h3
    rw [dec_pos hn, pad]
    rw [ih (n / 10)]
    · rw [Nat.div_div_eq_div_mul, show 10 * 10 ^ k = 10 ^ (k + 1) by rw [Nat.pow_succ, Nat.mul_comm]]; exact h
    · rcases k with _ | k
      · exact .inl rfl
      · right
        rw [Nat.div_div_eq_div_mul, show 10 * 10 ^ (k + 1 - 1) = 10 ^ (k + 1) by rw [Nat.pow_succ, Nat.mul_comm]; rfl]
        exact h3
theorem dec_split : ∀ (k x : Nat), 0 < x / 10 ^ k → dec x = dec (x / 10 ^ k) ++ pad (x % 10 ^ k) k := by
  intro k
  induction k with
  | zero => intro x _; simp [pad]
  | succ k ih =>
    intro x h
    have hx : x ≠ 0 := by intro e; subst e; simp at h
    have e1 : x / 10 ^ (k + 1) = x / 10 / 10 ^ k := by rw [Nat.div_div_eq_div_mul, Nat.pow_succ, Nat.mul_comm]
    rw [dec_pos hx, ih (x / 10) (by rw [← e1]; exact h), ← e1, pad, List.append_assoc]
    have e2 : x % 10 ^ (k + 1) / 10 = x / 10 % 10 ^ k := by
      rw [Nat.pow_succ, Nat.mul_comm, Nat.mod_mul_right_div_self]
    have e3 : x % 10 ^ (k + 1) % 10 = x % 10 := Nat.mod_mod_of_dvd _ ⟨10 ^ k, by rw [Nat.pow_succ, Nat.mul_comm]⟩
    rw [e2, e3]
theorem dec_len : ∀ (k n : Nat), n < 2 ^ k → (dec n).length ≤ k := by
  intro k
  induction k with
  | zero => intro n h; have : n = 0 := by simpa using h
            subst this; rw [dec_zero]; simp
  | succ k ih =>
    intro n h
    by_cases hn : n = 0
    · subst hn; rw [dec_zero]; simp
    · rw [dec_pos hn, List.length_append]
      have := ih (n / 10) (by rw [Nat.pow_succ] at h; omega)
      simp; omega
/-- The text of an integer. -/
def txt (z : Int) : List UInt8 := if z = 0 then [48] else (if z < 0 then [45] else []) ++ dec z.natAbs
theorem bl_chunk {x : Nat} (h : 0 < x) : bl (x / 1000000000) + 1 ≤ bl x := by
  obtain ⟨a, b, c⟩ := bl_spec (show x ≠ 0 by omega)
  have h1 : bl (x / 1000000000) ≤ bl x - 1 := by
    rw [bl_le_iff]
    have : 2 ^ bl x = 2 ^ (bl x - 1) * 2 := by rw [← Nat.pow_succ]; congr 1; omega
    omega
  omega
end Go.Proofs.Gv

namespace Go.Proofs.Gv
open Go Go.RowKit

/-- Block g holds the bytes f 0 .. f (n - 1), and none of them is frozen. -/
structure BRow (W : World) (g n : Nat) (f : Nat → UInt8) : Prop where
  lt : g < W.heap.size
  cell : ∀ j, j < n → W.cell? ⟨g, j, none⟩ = some (.int .u8 (f j).toNat)
  fz : ∀ j, j < n → W.frozen? ⟨g, j, none⟩ = false

theorem BRow.congr {W : World} {g n : Nat} {f h : Nat → UInt8} (H : BRow W g n f) (e : ∀ j, j < n → f j = h j) : BRow W g n h :=
  ⟨H.lt, fun j hj => by rw [H.cell j hj, e j hj], H.fz⟩
theorem BRow.same {W W' : World} {g n : Nat} {f : Nat → UInt8} (H : BRow W g n f) (e : W'.heap = W.heap := by rfl) : BRow W' g n f :=
  ⟨by rw [e]; exact H.lt, fun j hj => by rw [World.cell?_of_block (w := W) (by rw [e])]; exact H.cell j hj, fun j hj => by
    have := H.fz j hj
    unfold World.frozen? at this ⊢
    rw [e]; exact this⟩
theorem BRow.below {W W' : World} {B g n : Nat} {f : Nat → UInt8} (H : BRow W g n f) (hb : Below B W W') (hg : g < B) : BRow W' g n f :=
  ⟨Nat.lt_of_lt_of_le H.lt hb.size, fun j hj => (hb.cell (p := ⟨g, j, none⟩) hg).trans (H.cell j hj), fun j hj => (hb.frozen (p := ⟨g, j, none⟩) hg).trans (H.fz j hj)⟩
theorem BRow.set {W : World} {g n : Nat} {f : Nat → UInt8} (H : BRow W g n f) (k : Nat) (hk : k < n) (c : UInt8) : BRow (W.setCell ⟨g, k, none⟩ (.int .u8 c.toNat)) g n (fun j => if j = k then c else f j) := by
  refine ⟨by simpa using H.lt, fun j hj => ?_, fun j hj => by rw [World.frozen?_setCell]; exact H.fz j hj⟩
  by_cases e : j = k
  · subst e
    rw [if_pos rfl, World.cell?_setCell_same _ _ _ (H.cell j hj)]
  · rw [if_neg e]
    exact (World.cell?_setCell_other W _ _ _ (fun h => e (by have := congrArg Addr.off h; simpa using this.symm))).trans (H.cell j hj)
end Go.Proofs.Gv

namespace Go.Proofs.Gv
open Go Go.RowKit

theorem sizeBuilder : (Tryd.prog.info? 92).map (fun j => j.size) = some 2 := by kernel_rfl
theorem infoByte : (Tryd.prog.info? 5).map (fun i => (i.zero, i.size, i.bytes)) = some (some (.int .u8 0), 1, 1) := by kernel_rfl

set_option maxRecDepth 100000 in
set_option maxHeartbeats 1000000 in
theorem copyCheck_used (b : Nat) (w : World) (h0 : w.cell? ⟨b, 0, none⟩ = some (.pointer (some ⟨b, 0, none⟩))) :
    Calls Tryd.prog 76 #[.pointer (some ⟨b, 0, none⟩)] w fun e w' => e = .returned (.tuple #[]) ∧ w' = w := by
  obtain ⟨j, hj, _⟩ := Option.map_eq_some_iff.1 sizeBuilder
  go_enter Tryd.func76, Tryd.ntmps76
  go_wp2
  rw [Lib.run_neq_ptr_same w _ Tryd.underlying90 hj]
  go_wp2
  go_end0
  exact ⟨rfl, rfl⟩

set_option maxRecDepth 100000 in
set_option maxHeartbeats 1000000 in
theorem copyCheck_fresh (b : Nat) (w : World) (h0 : w.cell? ⟨b, 0, none⟩ = some (.pointer none)) (hsh : w.shape? b = some (92, 2)) (hfz : w.frozen? ⟨b, 0, none⟩ = false) :
    Calls Tryd.prog 76 #[.pointer (some ⟨b, 0, none⟩)] w fun e w' => e = .returned (.tuple #[]) ∧ w' = w.setCell ⟨b, 0, none⟩ (.pointer (some ⟨b, 0, none⟩)) := by
  obtain ⟨j, hj, hjs⟩ := Option.map_eq_some_iff.1 sizeBuilder
  go_enter Tryd.func76, Tryd.ntmps76
  go_wp2
  rw [Lib.run_to_unsafe w ⟨b, 0, none⟩ Tryd.underlying90 Tryd.underlying129 hj (by rw [hjs]; decide) hsh (Nat.zero_lt_succ 1)]
  simp only [Result.andThen]
  rw [Oper.upon_value]
  go_wp2
  rw [run_callFunc_extern Tryd.func95 (by kernel_rfl) (by kernel_rfl) (by kernel_rfl) (e := Extern.AbiNoEscape.same) (by kernel_rfl)]
  rw [Lib.run_noEscape]
  simp only [Result.andThen]
  rw [Oper.upon_value]
  go_wp2
  rw [Lib.run_from_unsafe w ⟨b, 0, none⟩ Tryd.underlying129 Tryd.underlying90 hj hsh (by kernel_rfl)]
  simp only [Result.andThen]
  rw [Oper.upon_value]
  go_wp2
  go_end0
  exact ⟨rfl, rfl⟩

theorem copyCheck_any (B b : Nat) (bs : List Value) (w : World) (h : Lib.IsBuilder 92 5 B b bs w) :
    Calls Tryd.prog 76 #[.pointer (some ⟨b, 0, none⟩)] w fun e w' => e = .returned (.tuple #[]) ∧ (Lib.BuilderAt 92 5 B b (.pointer (some ⟨b, 0, none⟩)) bs w' ∧ Below B w w') := by
  rcases h with h | h
  · refine (copyCheck_fresh b w h.cell0 h.shape h.frozen0).mono ?_
    rintro e w' ⟨rfl, rfl⟩
    exact ⟨rfl, h.used _, (Below.refl B w).setCell (p := ⟨b, 0, none⟩) h.1 _⟩
  · refine (copyCheck_used b w h.cell0).mono ?_
    rintro e w' ⟨rfl, rfl⟩
    exact ⟨rfl, h, Below.refl B _⟩

set_option maxRecDepth 100000 in
set_option maxHeartbeats 1000000 in
theorem WriteString_any (B b : Nat) (bs : List Value) (s : ByteArray) (w : World) (h : Lib.IsBuilder 92 5 B b bs w) (hlen : bs.length + s.size ≤ 1000000000) (hBw : B ≤ w.heap.size) :
    Calls Tryd.prog 57 #[.pointer (some ⟨b, 0, none⟩), .string s] w fun e w' => e = .returned (.tuple #[.int .i64 s.size, .nilIface]) ∧ (Lib.IsBuilder 92 5 B b (bs ++ Lib.strCells s) w' ∧ Below B w w') := by
  obtain ⟨i0, hi, hz0, hz1, hz2⟩ := info_parts infoByte
  go_enter Tryd.func57, Tryd.ntmps57
  go_wp2_with fail
  refine (copyCheck_any B b bs _ h).mono ?_
  rintro e w1 ⟨rfl, h1, hb1⟩
  obtain ⟨hB, v, hbk, hown, hne⟩ := h1
  have c0 : w1.cell? ⟨b, 0, none⟩ = some (.pointer (some ⟨b, 0, none⟩)) := by rw [Lib.cell_of_heap hbk]; rfl
  have c1 : w1.cell? ⟨b, 1, none⟩ = some v := by rw [Lib.cell_of_heap hbk]; rfl
  go_wp2_with (at_builtin; refine Lib.wpList_append_own_string _ rfl _ _ 85 9 rfl B 5 i0 Tryd.underlying85 Tryd.underlying9 hi hz0 hz1 hz2 _ _ _ rfl hown s rfl ?c3 ?c4 ?c5 ?_)
  case c3 => unfold maxLen; omega
  case c4 => omega
  case c5 => have := hb1.size; omega
  intro v' w2 hown' hgrow _
  have hlt : b < w1.heap.size := (Array.getElem?_eq_some_iff.1 hbk).1
  have hb2 : w2.heap[b]? = some (.cells #[.pointer (some ⟨b, 0, none⟩), v] 92 (0, 0)) := by
    rw [hgrow.block b hlt (fun e => hne e.symm)]; exact hbk
  have d0 : w2.cell? ⟨b, 0, none⟩ = some (.pointer (some ⟨b, 0, none⟩)) := by rw [Lib.cell_of_heap hb2]; rfl
  have d1 : w2.cell? ⟨b, 1, none⟩ = some v := by rw [Lib.cell_of_heap hb2]; rfl
  have f1 : w2.frozen? ⟨b, 1, none⟩ = false := Lib.frozen_of_heap hb2 1
  obtain ⟨ao, n', cap, rfl⟩ : ∃ ao n' cap, v' = .slice ao n' cap := by
    rcases hown'.2 with ⟨hv, _⟩ | ⟨g, cap, cur, hv, _⟩
    · exact ⟨_, _, _, hv⟩
    · exact ⟨_, _, _, hv⟩
  go_wp2
  go_ret2
  refine ⟨rfl, .inr ?_, ?_⟩
  · exact Lib.BuilderAt.put (T := 92) (e := 5) hB hb2 (bs' := bs ++ Lib.strCells s) (by simpa [Lib.strCells_length] using hown') (by decide)
  · exact (hb1.grown hgrow (by have := hb1.size; omega) (fun k hk => (hown.lt k hk).1)).setCell (p := ⟨b, 1, none⟩) hB _

set_option maxRecDepth 100000 in
set_option maxHeartbeats 1000000 in
theorem WriteByte_any (B b : Nat) (bs : List Value) (c : Int) (w : World) (h : Lib.IsBuilder 92 5 B b bs w) (hlen : bs.length + 1 ≤ 1000000000) (hBw : B ≤ w.heap.size) :
    Calls Tryd.prog 56 #[.pointer (some ⟨b, 0, none⟩), .int .u8 c] w fun e w' => e = .returned .nilIface ∧ (Lib.IsBuilder 92 5 B b (bs ++ [.int .u8 c]) w' ∧ Below B w w') := by
  obtain ⟨i0, hi, hz0, hz1, hz2⟩ := info_parts infoByte
  go_enter Tryd.func56, Tryd.ntmps56
  go_wp2_with fail
  refine (copyCheck_any B b bs _ h).mono ?_
  rintro e w1 ⟨rfl, h1, hb1⟩
  obtain ⟨hB, v, hbk, hown, hne⟩ := h1
  have c0 : w1.cell? ⟨b, 0, none⟩ = some (.pointer (some ⟨b, 0, none⟩)) := by rw [Lib.cell_of_heap hbk]; rfl
  have c1 : w1.cell? ⟨b, 1, none⟩ = some v := by rw [Lib.cell_of_heap hbk]; rfl
  go_wp2_with (at_builtin; refine wpList_append_own _ rfl _ _ 85 rfl B 5 i0 (.int .u8 0) 1 1 Tryd.underlying85 hi hz0 hz1 hz2 rfl (by decide) _ _ _ rfl (hown.alloc _) ⟨w1.heap.size, 0, none⟩ 1 1 [.int .u8 c] rfl rfl (cell_one_new _ _ _) (by simp [Value.oneCell']) ?c3 ?c4 ?c5 ?_)
  case c3 => unfold maxLen; omega
  case c4 => omega
  case c5 => have := hb1.size; simp; omega
  intro v' w2 hown' hgrow _
  have hlt : b < w1.heap.size := (Array.getElem?_eq_some_iff.1 hbk).1
  have hb2 : w2.heap[b]? = some (.cells #[.pointer (some ⟨b, 0, none⟩), v] 92 (0, 0)) := by
    rw [hgrow.block b (by simp; omega) (fun e => hne e.symm), Lib.alloc_old w1 _ b hlt]; exact hbk
  have d0 : w2.cell? ⟨b, 0, none⟩ = some (.pointer (some ⟨b, 0, none⟩)) := by rw [Lib.cell_of_heap hb2]; rfl
  have d1 : w2.cell? ⟨b, 1, none⟩ = some v := by rw [Lib.cell_of_heap hb2]; rfl
  have f1 : w2.frozen? ⟨b, 1, none⟩ = false := Lib.frozen_of_heap hb2 1
  obtain ⟨ao, n', cap, rfl⟩ : ∃ ao n' cap, v' = .slice ao n' cap := by
    rcases hown'.2 with ⟨hv, _⟩ | ⟨g, cap, cur, hv, _⟩
    · exact ⟨_, _, _, hv⟩
    · exact ⟨_, _, _, hv⟩
  go_wp2
  go_ret
  refine ⟨rfl, .inr ?_, ?_⟩
  · exact Lib.BuilderAt.put (T := 92) (e := 5) hB hb2 (bs' := bs ++ [.int .u8 c]) (by simpa using hown') (by decide)
  · exact ((hb1.alloc (by have := hb1.size; omega) _).grown hgrow (by have := hb1.size; simp; omega) (fun k hk => (hown.lt k hk).1)).setCell (p := ⟨b, 1, none⟩) hB _
end Go.Proofs.Gv
