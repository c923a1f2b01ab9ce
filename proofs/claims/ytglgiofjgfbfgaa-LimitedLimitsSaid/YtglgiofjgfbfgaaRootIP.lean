/- integer.Sub, Compare: what they compute. -/
import Derived.Test.YtglgiofjgfbfgaaIntBP
import Derived.Test.YtglgiofjgfbfgaaIntNegP
import Derived.Test.YtglgiofjgfbfgaaBytesP
import Derived.Test.YtglgiofjgfbfgaaAddP
import Derived.Test.YtglgiofjgfbfgaaMul
import Derived.Test.YtglgiofjgfbfgaaShelf
import Derived.Shelf.Small.Bits
import Derived.Test.YtglgiofjgfbfgaaTrimP
import Derived.Laws.BitsLemmas
import Derived.Laws.CopyOwn
import Derived.BigRegion
import Derived.Test.YtglgiofjgfbfgaaCompareP
import Derived.Deep.RegionHeld3
set_option linter.unusedSimpArgs false
set_option linter.unusedVariables false
namespace Go.Proofs.Gv
open Go Go.RowKit

theorem mg_size_iv (na : Bool) (sa : ByteArray) : (mg (iv na sa).natAbs).size ≤ sa.size := size_mg (iv_lt na sa)
theorem mg_size_neg (na : Bool) (sa : ByteArray) : (mg (-iv na sa).natAbs).size ≤ sa.size := by rw [Int.natAbs_neg]; exact mg_size_iv na sa

set_option maxHeartbeats 1600000 in
theorem Sub_any (na nb : Bool) (sa sb : ByteArray) (w : World) (ha : sa.size ≤ 15000000) (hb : sb.size ≤ 15000000) :
    Calls Try.prog 21 #[.agg #[.bool na, .string sa], .agg #[.bool nb, .string sb]] w (RetI w (iv na sa - iv nb sb)) := by
  have L1 := mg_size_neg nb sb
  obtain ⟨z, hz⟩ : ∃ z, iv na sa - iv nb sb = z := ⟨_, rfl⟩
  rw [hz]
  obtain ⟨q, hq⟩ : ∃ q, -iv nb sb = q := ⟨_, rfl⟩
  have HN : Hid (∀ w', Calls Try.prog 57 #[.agg #[.bool nb, .string sb]] w' (RetI w' q)) := fun w' => by rw [← hq]; exact Neg_any nb sb w' (by omega)
  rw [hq] at L1
  have HA : Hid (∀ w', Calls Try.prog 42 #[.agg #[.bool na, .string sa], .agg #[.bool (sgn q), .string (mg q.natAbs)]] w' (RetI w' z)) := fun w' => by
    have := Add_any na (sgn q) sa (mg q.natAbs) w' (by omega) (by omega)
    rwa [iv_V, ← hq, ← Int.sub_eq_add_neg, hz, hq] at this
  clear hz hq
  go_enter Try.func21, Try.ntmps21
  go_wp2
  obtain ⟨W, hW⟩ : ∃ W, ((w.alloc (.cells #[.bool na, .string sa] 29)).alloc (.cells #[.bool nb, .string sb] 29)).alloc (.cells #[.bool false, .string ⟨#[]⟩] 29) = W := ⟨_, rfl⟩
  have HO := Lib.hid (Own.three w (.cells #[.bool na, .string sa] 29) (.cells #[.bool nb, .string sb] 29) (.cells #[.bool false, .string ⟨#[]⟩] 29))
  rw [hW] at HO ⊢
  clear hW
  obtain ⟨a0, a1, a2, a3, a4⟩ := HO.out.blk 0 w.heap.size rfl rfl
  obtain ⟨b0, b1, b2, b3, b4⟩ := HO.out.blk 1 (w.heap.size + 1) rfl rfl
  have ne1 : ¬ w.heap.size = w.heap.size + 1 + 1 := by omega
  have ne2 : ¬ w.heap.size + 1 + 1 = w.heap.size := by omega
  go_region_held3 (fun w' => w'.cell? ⟨w.heap.size, 0, none⟩ = some (.bool na) ∧ w'.cell? ⟨w.heap.size, 1, none⟩ = some (.string sa) ∧ w'.cell? ⟨w.heap.size + 1, 0, none⟩ = some (.bool nb) ∧ w'.cell? ⟨w.heap.size + 1, 1, none⟩ = some (.string sb)) (go_keep) (first
    | (go_at_call 57; refine (HN.out _).mono ?_; rintro e w1 ⟨rfl, hb⟩; have HO1 := Lib.hid (HO.out.next hb); obtain ⟨k0, k1, k2, k3, k4⟩ := HO1.out.blk 0 w.heap.size rfl rfl; obtain ⟨l0, l1, l2, l3, l4⟩ := HO1.out.blk 1 (w.heap.size + 1) rfl rfl; clear hb)
    | (go_at_call 42; refine (HA.out _).mono ?_; rintro e w2 ⟨rfl, hb⟩; have HO2 := Lib.hid (HO1.out.next hb); obtain ⟨m0, m1, m2, m3, m4⟩ := HO2.out.blk 0 w.heap.size rfl rfl; obtain ⟨n0, n1, n2, n3, n4⟩ := HO2.out.blk 1 (w.heap.size + 1) rfl rfl; obtain ⟨j0, j1, j2, j3, j4⟩ := HO2.out.blk 2 (w.heap.size + 1 + 1) rfl rfl; clear hb))
  all_goals go_wp2
  refine bodyPost_ret (v := .agg #[.bool (sgn z), .string (mg z.natAbs)]) (by simp [results, Try.results21, go_sem, j0, j1]) rfl ?_
  exact ⟨rfl, HO2.out.stored (w.heap.size + 1 + 1) (by omega) _ _⟩

/-- -1, 0 or 1. -/
def cmpI (a b : Int) : Int := if a < b then -1 else if b < a then 1 else 0
theorem cmpI_lt {a b : Int} (h : a < b) : cmpI a b = -1 := by simp [cmpI, h]
theorem cmpI_gt {a b : Int} (h : b < a) : cmpI a b = 1 := by unfold cmpI; rw [if_neg (by omega), if_pos h]
theorem cmpI_eq (a : Int) : cmpI a a = 0 := by simp [cmpI]

theorem mg_toList (n : Nat) : (mg n).toList = byt n := by rw [ByteArray.toList_eq]; exact mg_list n
theorem mg_empty : (mg 0).toList.isEmpty = true := by rw [mg_toList, byt_zero]; rfl
theorem mg_full {n : Nat} (h : n ≠ 0) : (mg n).toList.isEmpty = false := by
  rw [mg_toList]
  have := mt byt_eq_nil.1 h
  cases e : byt n with
  | nil => exact absurd e this
  | cons a l => rfl

set_option maxHeartbeats 1600000 in
theorem Compare_any (na nb : Bool) (sa sb : ByteArray) (w : World) (ha : sa.size ≤ 15000000) (hb : sb.size ≤ 15000000) :
    Calls Try.prog 20 #[.agg #[.bool na, .string sa], .agg #[.bool nb, .string sb]] w fun e w' => e = .returned (.int .i64 (cmpI (iv na sa) (iv nb sb))) ∧ Below w.heap.size w w' := by
  go_enter Try.func20, Try.ntmps20
  go_wp2_with fail
  have HO := Lib.hid (Own.two w (.cells #[.bool na, .string sa] 29) (.cells #[.bool nb, .string sb] 29))
  refine (Sub_any na nb sa sb _ ha hb).mono ?_
  rintro e w1 ⟨rfl, hb1⟩
  have HO1 := Lib.hid (HO.out.next hb1)
  clear hb1
  obtain ⟨d, hd⟩ : ∃ d, iv na sa - iv nb sb = d := ⟨_, rfl⟩
  have Hd := Lib.hid hd
  rw [hd]
  clear hd
  by_cases h1 : d < 0
  · have hs : sgn d = true := by unfold sgn; simpa using h1
    rw [hs]
    clear hs
    go_wp2
    go_ret
    exact ⟨by rw [cmpI_lt (by have := Hd.out; omega)]; rfl, HO1.out.below.alloc HO1.out.below.size _⟩
  · have hs : sgn d = false := by unfold sgn; simpa using h1
    rw [hs]
    clear hs
    by_cases h2 : d = 0
    · have he : (mg d.natAbs).toList.isEmpty = true := by rw [h2]; exact mg_empty
      have Hd2 := Lib.hid h2
      clear h2
      go_wp2
      go_ret
      exact ⟨by rw [show iv na sa = iv nb sb by have := Hd.out; have := Hd2.out; omega, cmpI_eq]; rfl, HO1.out.below.alloc HO1.out.below.size _⟩
    · have he : (mg d.natAbs).toList.isEmpty = false := mg_full (by omega)
      have h3 : 0 < d := by omega
      clear h2
      go_wp2
      go_ret
      exact ⟨by rw [cmpI_gt (by have := Hd.out; omega)]; rfl, HO1.out.below.alloc HO1.out.below.size _⟩
end Go.Proofs.Gv

namespace Go.Proofs.Gv

section
variable {X Y M k g : Nat}
/-- The number in u in front of the step k, and behind it with the window b. -/
def num (X k b : Nat) : Nat := join k (X % B32 ^ k) b
section
variable {W : Nat}
end
end

end Go.Proofs.Gv

namespace Go.Proofs.Gv
open Go Go.RowKit

/-- The three rows of a long division. -/
structure DivMem (w wr : World) (gv gq n M K : Nat) (f h : Nat → Nat) (Y : Nat) : Prop where
  u : wr.rowIs w.heap.size 68 n (u32s f)
  v : wr.rowIs gv 68 (M + 1) (u32s (D Y))
  q : wr.rowIs gq 68 K (u32s h)
  b : Below w.heap.size w wr
  l1 : w.heap.size < gv
  l2 : gv < gq
section
variable {w wr : World} {gv gq n M K : Nat} {f f' h h' : Nat → Nat} {Y : Nat}
theorem DivMem.congr (m : DivMem w wr gv gq n M K f h Y) (e : ∀ i, i < n → f i = f' i) : DivMem w wr gv gq n M K f' h Y :=
  ⟨m.u.congr fun i hi => by unfold u32s; rw [e i hi], m.v, m.q, m.b, m.l1, m.l2⟩
end

section
variable {Y W M T g r : Nat}
end
end Go.Proofs.Gv

namespace Go.Proofs.Gv
open Go Go.RowKit

open Classical in
/-- While the root is made: the box of n, the box of the digits, the result's block. -/
structure RtSt (w wr : World) (bx : Nat) (n x : Nat) (Ax : Option Addr) (cx : Nat) : Prop where
  cn : wr.cell? ⟨w.heap.size + 1, 0, none⟩ = some (.int .i64 n)
  cb : wr.cell? ⟨bx, 0, none⟩ = some (.slice Ax (nlen x) cx)
  nx : Nt wr wr.heap.size Ax cx x
  r0 : ∃ v, wr.cell? ⟨w.heap.size + 1 + 1, 0, none⟩ = some v
  r1 : ∃ v, wr.cell? ⟨w.heap.size + 1 + 1, 1, none⟩ = some v
  g0 : wr.frozen? ⟨w.heap.size + 1 + 1, 0, none⟩ = false
  g1 : wr.frozen? ⟨w.heap.size + 1 + 1, 1, none⟩ = false
  ln : w.heap.size + 1 + 1 < bx
  lx : bx < wr.heap.size
  be : Below w.heap.size w wr
theorem RtSt.next {w wr W' : World} {bx n x : Nat} {Ax : Option Addr} {cx : Nat} (h : RtSt w wr bx n x Ax cx) (hb : Below wr.heap.size wr W') : RtSt w W' bx n x Ax cx := by
  have h1 := h.ln
  have h2 := h.lx
  have h3 := h.be.size
  exact ⟨(hb.cell (p := ⟨w.heap.size + 1, 0, none⟩) (by show w.heap.size + 1 < _; omega)).trans h.cn, (hb.cell (p := ⟨bx, 0, none⟩) h2).trans h.cb, h.nx.next hb,
    h.r0.imp fun v hv => (hb.cell (p := ⟨w.heap.size + 1 + 1, 0, none⟩) (by show w.heap.size + 1 + 1 < _; omega)).trans hv, h.r1.imp fun v hv => (hb.cell (p := ⟨w.heap.size + 1 + 1, 1, none⟩) (by show w.heap.size + 1 + 1 < _; omega)).trans hv,
    (hb.frozen (p := ⟨w.heap.size + 1 + 1, 0, none⟩) (by show w.heap.size + 1 + 1 < _; omega)).trans h.g0, (hb.frozen (p := ⟨w.heap.size + 1 + 1, 1, none⟩) (by show w.heap.size + 1 + 1 < _; omega)).trans h.g1,
    h1, Nat.lt_of_lt_of_le h2 hb.size, h.be.trans (hb.mono h3)⟩
end Go.Proofs.Gv
