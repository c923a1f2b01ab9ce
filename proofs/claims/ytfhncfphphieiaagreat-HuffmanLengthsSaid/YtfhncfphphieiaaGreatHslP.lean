import Derived.Test.YtfhncfphphieiaaGreatIntFP
import Derived.Deep.LoopGhost
import Derived.OpenShut
set_option maxHeartbeats 1600000
set_option maxRecDepth 100000
set_option linter.unusedSimpArgs false
set_option linter.unusedVariables false
namespace Go.Proofs.Gv
open Go Go.RowKit
structure Rp (n : Bool) (s : ByteArray) (z : Int) : Prop where
 val : iv n s = z
 sz : s.size ≤ 1000000
theorem p256 (N : Nat) : (256 : Nat) ^ N = 2 ^ (8 * N) := by rw [Nat.pow_mul]
theorem szB {x : Nat} (N : Nat) (h : x < 2 ^ (8 * N)) : (mg x).size ≤ N := size_mg (by rw [p256]; exact h)
theorem Rp.V {z : Int} (N : Nat) (h : z.natAbs < 2 ^ N) (hN : N ≤ 7900000) : Rp (sgn z) (mg z.natAbs) z :=
 ⟨iv_V z, Nat.le_trans (szB (N / 8 + 1) (Nat.lt_of_lt_of_le h (Nat.pow_le_pow_right (by decide) (by omega)))) (by omega)⟩
theorem bv_emp : bv (⟨#[]⟩ : ByteArray).data.toList = 0 := by rw [← mg_zero, bv_mg]
theorem Rp.zero : Rp false ⟨#[]⟩ 0 := ⟨by unfold iv; rw [bv_emp]; rfl, by decide⟩
theorem Rp.abs {n : Bool} {s : ByteArray} {z : Int} (h : Rp n s z) : z.natAbs = bv s.data.toList := by rw [← h.val, iv_abs]
theorem Rp.lt {n : Bool} {s : ByteArray} {z : Int} (h : Rp n s z) {k : Nat} (hk : s.size ≤ k) : z.natAbs < 2 ^ (8 * k) := by
 rw [← h.val, ← p256]
 exact Nat.lt_of_lt_of_le (iv_lt n s) (Nat.pow_le_pow_right (by decide) hk)
theorem Rp.neg {n : Bool} {s : ByteArray} {z : Int} (h : Rp n s z) (hz : z < 0) : n = true ∧ 0 < bv s.data.toList := by
 have hv := h.val
 unfold iv at hv
 cases n
 ·simp at hv; omega
 ·simp at hv; exact ⟨rfl, by omega⟩
theorem Rp.pos {n : Bool} {s : ByteArray} {z : Int} (h : Rp n s z) (hz : 0 ≤ z) : n = true → bv s.data.toList = 0 := by
 have hv := h.val
 unfold iv at hv
 rintro rfl
 simp at hv; omega
section
variable {na nb : Bool} {sa sb : ByteArray} {a b : Int}
theorem cAdd (ha : Rp na sa a) (hb : Rp nb sb b) (W : World) :
  Calls Tryz.prog 66 #[.agg #[.bool na, .string sa], .agg #[.bool nb, .string sb]] W fun e w' => e = .returned (.agg #[.bool (sgn (a + b)), .string (mg (a + b).natAbs)]) ∧ Below W.heap.size W w' := by
 have := Add_any na nb sa sb W (Nat.le_trans ha.sz (by decide)) (Nat.le_trans hb.sz (by decide))
 rwa [ha.val, hb.val] at this
theorem cMul (ha : Rp na sa a) (hb : Rp nb sb b) (W : World) :
  Calls Tryz.prog 68 #[.agg #[.bool na, .string sa], .agg #[.bool nb, .string sb]] W fun e w' => e = .returned (.agg #[.bool (sgn (a * b)), .string (mg (a * b).natAbs)]) ∧ Below W.heap.size W w' := by
 have := Mul_any na nb sa sb W (Nat.le_trans ha.sz (by decide)) (Nat.le_trans hb.sz (by decide))
 rwa [ha.val, hb.val] at this
theorem cNeg (ha : Rp na sa a) (W : World) :
  Calls Tryz.prog 102 #[.agg #[.bool na, .string sa]] W fun e w' => e = .returned (.agg #[.bool (sgn (-a)), .string (mg (-a).natAbs)]) ∧ Below W.heap.size W w' := by
 have := Neg_any na sa W (Nat.le_trans ha.sz (by decide))
 rwa [ha.val] at this
theorem cCmp (ha : Rp na sa a) (hb : Rp nb sb b) (W : World) :
  Calls Tryz.prog 42 #[.agg #[.bool na, .string sa], .agg #[.bool nb, .string sb]] W fun e w' => e = .returned (.int .i64 (cmpI a b)) ∧ Below W.heap.size W w' := by
 have := Compare_any na nb sa sb W (Nat.le_trans ha.sz (by decide)) (Nat.le_trans hb.sz (by decide))
 rwa [ha.val, hb.val] at this
theorem cDiv {q r : Int} (ha : Rp na sa a) (hb : Rp nb sb b) (hd : DivSpec a b q r) (h0 : b ≠ 0) (W : World) :
  Calls Tryz.prog 104 #[.agg #[.bool na, .string sa], .agg #[.bool nb, .string sb]] W fun e w' => e = .returned (.tuple #[.agg #[.bool (sgn q), .string (mg q.natAbs)], .agg #[.bool (sgn r), .string (mg r.natAbs)], .int .i64 0]) ∧ Below W.heap.size W w' := by
 have := Div_any na nb sa sb W (Nat.le_trans ha.sz (by decide)) (Nat.le_trans hb.sz (by decide)) (by rw [← hb.abs]; omega)
 rw [ha.val, hb.val] at this
 refine this.mono ?_
 rintro e w' ⟨q', r', rfl, hd', hbl⟩
 obtain ⟨rfl, rfl⟩ := div_uniq hd hd'
 exact ⟨rfl, hbl⟩
theorem cPower (n : Int) (ha : Rp na sa a) (h0 : 0 ≤ n) (h1 : n ≤ 4096) (h2 : n.toNat * bl a.natAbs ≤ 65536) (W : World) :
  Calls Tryz.prog 70 #[.agg #[.bool na, .string sa], .int .i64 n] W fun e w' => e = .returned (.tuple #[.agg #[.bool (sgn (a ^ n.toNat)), .string (mg (a ^ n.toNat).natAbs)], .int .i64 0]) ∧ Below W.heap.size W w' := by
 have := Power_any na sa n W (Nat.le_trans ha.sz (by decide)) (by omega) (by omega)
 have hE : powE a n = 0 := by unfold powE; rw [if_neg (by omega), if_neg (by omega)]
 have hV : powV a n = a ^ n.toNat := by unfold powV; rw [if_pos hE]
 rw [ha.val, hE, hV] at this
 exact this
theorem canon_V (z : Int) : Canon (sgn z) (mg z.natAbs) := by
 unfold Canon
 rw [bv_mg, sg_eq]
 refine ⟨?_, rfl⟩
 congr 1
 unfold sgn
 by_cases h : z < 0
 ·simp [h]; omega
 ·simp [h]; omega
end
theorem bl_lt {x N : Nat} (h : x < 2 ^ N) : bl x ≤ N := bl_le_iff.2 h
end Go.Proofs.Gv
namespace Go.Proofs.Gv
open Go Go.RowKit
theorem cmpI_congr {a b c d : Int} (h1 : a < b ↔ c < d) (h2 : b < a ↔ d < c) : cmpI a b = cmpI c d := by
 unfold cmpI
 by_cases e1 : a < b
 ·rw [if_pos e1, if_pos (h1.1 e1)]
 ·rw [if_neg e1, if_neg (mt h1.2 e1)]
  by_cases e2 : b < a
  ·rw [if_pos e2, if_pos (h2.1 e2)]
  ·rw [if_neg e2, if_neg (mt h2.2 e2)]
theorem cmpI_cases (a b : Int) : (a < b ∧ cmpI a b = -1 ∧ cmpI b a = 1) ∨ (a = b ∧ cmpI a b = 0 ∧ cmpI b a = 0) ∨ (b < a ∧ cmpI a b = 1 ∧ cmpI b a = -1) := by
 rcases Int.lt_trichotomy a b with h | h | h
 ·exact .inl ⟨h, cmpI_lt h, cmpI_gt h⟩
 ·subst h; exact .inr (.inl ⟨rfl, cmpI_eq a, cmpI_eq a⟩)
 ·exact .inr (.inr ⟨h, cmpI_gt h, cmpI_lt h⟩)
end Go.Proofs.Gv
namespace Go.Proofs.Gv
open Go Go.RowKit
theorem cOf (z : Int) (h1 : -9223372036854775808 ≤ z) (h2 : z < 9223372036854775808) (W : World) : Calls Tryz.prog 20 #[.int .i64 z] W fun e w' => e = .returned (.agg #[.bool (sgn z), .string (mg z.natAbs)]) ∧ Below W.heap.size W w' := Of_any z W h1 h2
end Go.Proofs.Gv
namespace Go.Proofs.Gv
open Go Go.RowKit
structure BC (W : World) (b : Nat) (l : List Value) : Prop where
 lt : b < W.heap.size
 cell : ∀ i v, l[i]? = some v → W.cell? ⟨b, i, none⟩ = some v
 fz : ∀ i, i < l.length → W.frozen? ⟨b, i, none⟩ = false
theorem BC.below {W W1 W' : World} {b : Nat} {l : List Value} (h : BC W b l) (hb : Below W1.heap.size W1 W') (e : W1.heap = W.heap := by rfl) : BC W' b l := by
 have hlt : b < W1.heap.size := by rw [e]; exact h.lt
 have hc : ∀ o, W1.cell? ⟨b, o, none⟩ = W.cell? ⟨b, o, none⟩ := fun o => World.cell?_of_block (by rw [e])
 have hf : ∀ o, W1.frozen? ⟨b, o, none⟩ = W.frozen? ⟨b, o, none⟩ := fun o => by unfold World.frozen?; rw [e]
 exact ⟨Nat.lt_of_lt_of_le hlt hb.size, fun i v hv => (hb.cell (p := ⟨b, i, none⟩) hlt).trans ((hc i).trans (h.cell i v hv)),
  fun i hi => (hb.frozen (p := ⟨b, i, none⟩) hlt).trans ((hf i).trans (h.fz i hi))⟩
theorem BC.alloc {W : World} {b : Nat} {l : List Value} (h : BC W b l) (o : Obj) : BC (W.alloc o) b l :=
 h.below ((Below.refl W.heap.size W).alloc (Nat.le_refl _) o)
theorem BC.set {W : World} {b : Nat} {l : List Value} (h : BC W b l) (i : Nat) (v : Value) (hi : i < l.length) : BC (W.setCell ⟨b, i, none⟩ v) b (l.set i v) := by
 refine ⟨by simpa using h.lt, fun j u hu => ?_, fun j hj => ?_⟩
 ·by_cases hij : i = j
  ·subst hij
   rw [List.getElem?_set_self hi] at hu
   obtain rfl := Option.some.inj hu
   exact World.cell?_setCell_same _ _ _ (h.cell i _ (List.getElem?_eq_getElem hi))
  ·rw [List.getElem?_set_ne hij] at hu
   exact (World.cell?_setCell_other _ _ _ _ (fun e => hij (congrArg Addr.off e))).trans (h.cell j u hu)
 ·rw [World.frozen?_setCell]; exact h.fz j (by simpa using hj)
theorem BC.other {W : World} {b c : Nat} {l : List Value} (h : BC W b l) (i : Nat) (v : Value) (hne : b ≠ c) : BC (W.setCell ⟨c, i, none⟩ v) b l :=
 ⟨by simpa using h.lt, fun j u hu => (World.cell?_setCell_other _ _ _ _ (fun e => hne (congrArg Addr.block e).symm)).trans (h.cell j u hu),
  fun j hj => by rw [World.frozen?_setCell]; exact h.fz j hj⟩
theorem BC.of {W : World} {b : Nat} {a : Array Value} {T : TypeId} (h : W.heap[b]? = some (.cells a T (0, 0))) : BC W b a.toList := by
 refine ⟨(Array.getElem?_eq_some_iff.1 h).1, fun i v hv => ?_, fun i hi => ?_⟩
 ·rw [Array.getElem?_toList] at hv
  simp [World.cell?, h, hv]
 ·simp [World.frozen?, h]
theorem BC.new (W : World) (b : Nat) (a : Array Value) (T : TypeId) (hb : b = W.heap.size) : BC (W.alloc (.cells a T)) b a.toList := by
 subst hb
 exact BC.of (T := T) (heap_alloc_new W (.cells a T))
def BCs (L : List (Nat × List Value)) (W : World) : Prop := ∀ x ∈ L, BC W x.1 x.2
theorem BCs.nil (W : World) : BCs [] W := fun x h => by cases h
theorem BCs.cons {L : List (Nat × List Value)} {W : World} {b : Nat} {l : List Value} (h : BCs L W) (hb : BC W b l) : BCs ((b, l) :: L) W := fun x hx => by
 rcases List.mem_cons.1 hx with rfl | hx
 ·exact hb
 ·exact h x hx
theorem BCs.below {L : List (Nat × List Value)} {W W1 W' : World} (h : BCs L W) (hb : Below W1.heap.size W1 W') (e : W1.heap = W.heap := by rfl) : BCs L W' := fun x hx => (h x hx).below hb e
theorem BCs.push {L : List (Nat × List Value)} {W : World} (h : BCs L W) (b : Nat) (a : Array Value) (T : TypeId) (hb : b = W.heap.size) : BCs ((b, a.toList) :: L) (W.alloc (.cells a T)) :=
 BCs.cons (fun x hx => (h x hx).alloc _) (BC.new W b a T hb)
theorem BC.set2 {W : World} {b : Nat} {l : List Value} (h : BC W b l) (i j : Nat) (u v : Value) (hi : i < l.length) (hj : j < l.length) :
  BC ((W.setCell ⟨b, i, none⟩ u).setCell ⟨b, j, none⟩ v) b ((l.set i u).set j v) := (h.set i u hi).set j v (by simpa using hj)
theorem BC.other2 {W : World} {b c : Nat} {l : List Value} (h : BC W b l) (i j : Nat) (u v : Value) (hne : b ≠ c) : BC ((W.setCell ⟨c, i, none⟩ u).setCell ⟨c, j, none⟩ v) b l := (h.other i u hne).other j v hne
theorem BC.at {W : World} {b : Nat} {l : List Value} (h : BC W b l) (i : Nat) (v : Value) (e : l[i]? = some v := by rfl) : W.cell? ⟨b, i, none⟩ = some v := h.cell i v e
theorem BC.z {W : World} {b : Nat} {l : List Value} (h : BC W b l) (i : Nat) (e : i < l.length := by decide) : W.frozen? ⟨b, i, none⟩ = false := h.fz i e
theorem BC.at2 {W : World} {b : Nat} {v0 v1 : Value} {l : List Value} (h : BC W b (v0 :: v1 :: l)) : W.cell? ⟨b, 0, none⟩ = some v0 ∧ W.cell? ⟨b, 1, none⟩ = some v1 := ⟨h.at 0 v0, h.at 1 v1⟩
theorem BC.at4 {W : World} {b : Nat} {v0 v1 v2 v3 : Value} {l : List Value} (h : BC W b (v0 :: v1 :: v2 :: v3 :: l)) : W.cell? ⟨b, 0, none⟩ = some v0 ∧ W.cell? ⟨b, 1, none⟩ = some v1 ∧ W.cell? ⟨b, 2, none⟩ = some v2 ∧ W.cell? ⟨b, 3, none⟩ = some v3 := ⟨h.at 0 v0, h.at 1 v1, h.at 2 v2, h.at 3 v3⟩
theorem BC.z2 {W : World} {b : Nat} {v0 v1 : Value} {l : List Value} (h : BC W b (v0 :: v1 :: l)) : W.frozen? ⟨b, 0, none⟩ = false ∧ W.frozen? ⟨b, 1, none⟩ = false := ⟨h.z 0 (by simp), h.z 1 (by simp)⟩
theorem BC.z4 {W : World} {b : Nat} {v0 v1 v2 v3 : Value} {l : List Value} (h : BC W b (v0 :: v1 :: v2 :: v3 :: l)) : W.frozen? ⟨b, 0, none⟩ = false ∧ W.frozen? ⟨b, 1, none⟩ = false ∧ W.frozen? ⟨b, 2, none⟩ = false ∧ W.frozen? ⟨b, 3, none⟩ = false := ⟨h.z 0 (by simp), h.z 1 (by simp), h.z 2 (by simp), h.z 3 (by simp)⟩
theorem BC.all2 {α : Type} {f : α → World} {b : Nat} {v0 v1 : Value} {l : List Value} (h : ∀ u, BC (f u) b (v0 :: v1 :: l)) : (∀ u, (f u).cell? ⟨b, 0, none⟩ = some v0) ∧ (∀ u, (f u).cell? ⟨b, 1, none⟩ = some v1) := ⟨fun u => (h u).at 0 v0, fun u => (h u).at 1 v1⟩
theorem BC.all4 {α : Type} {f : α → World} {b : Nat} {v0 v1 v2 v3 : Value} {l : List Value} (h : ∀ u, BC (f u) b (v0 :: v1 :: v2 :: v3 :: l)) : (∀ u, (f u).cell? ⟨b, 0, none⟩ = some v0) ∧ (∀ u, (f u).cell? ⟨b, 1, none⟩ = some v1) ∧ (∀ u, (f u).cell? ⟨b, 2, none⟩ = some v2) ∧ (∀ u, (f u).cell? ⟨b, 3, none⟩ = some v3) := ⟨fun u => (h u).at 0 v0, fun u => (h u).at 1 v1, fun u => (h u).at 2 v2, fun u => (h u).at 3 v3⟩
def GivesV (f : FuncId) (args : Array Value) (v : Value) : Prop := ∀ W, Calls Tryz.prog f args W fun e w' => e = .returned v ∧ Below W.heap.size W w'
end Go.Proofs.Gv
namespace Go.Proofs.Gv
open Go Go.RowKit
def Sl (W : World) (a : Option Addr) (L : List (Bool × ByteArray)) : Prop :=
 ∀ (i : Nat) (n : Bool) (s : ByteArray), L[i]? = some (n, s) → ∃ A, a = some A ∧ W.cell? (A.add (i * 2)) = some (.bool n) ∧ W.cell? (A.add (i * 2 + 1)) = some (.string s)
theorem Sl.below {W W' : World} {a : Option Addr} {L : List (Bool × ByteArray)} (h : Sl W a L) (hb : Below W.heap.size W W') : Sl W' a L := fun i n s hi => by
 obtain ⟨A, e, c0, c1⟩ := h i n s hi
 exact ⟨A, e, (hb.cell (World.block_lt_of_cell? _ _ c0)).trans c0, (hb.cell (World.block_lt_of_cell? _ _ c1)).trans c1⟩
theorem Sl.lt {W : World} {a : Option Addr} {L : List (Bool × ByteArray)} (h : Sl W a L) (hl : 0 < L.length) : ∀ A, a = some A → A.block < W.heap.size := fun A e => by
 obtain ⟨A', e', c0, -⟩ := h 0 L[0].1 L[0].2 (List.getElem?_eq_getElem hl)
 rw [e] at e'
 cases e'
 exact World.block_lt_of_cell? _ (A.add (0 * 2)) c0
theorem addr_next (A : Addr) (n : Nat) : (⟨(A.add n).block, (A.add n).off + 1, none⟩ : Addr) = A.add (n + 1) := by
 unfold Addr.add
 by_cases h : n = 0
 ·subst h; simp
 ·simp [h]; omega
def grB (L : List (Bool × ByteArray)) : Bool := L.any fun x => decide (8 < x.2.size)
def grS (L : List (Bool × ByteArray)) : Bool := grB L || (decide (8 < L.length) && decide (L.length ≤ 64) || decide (67 < L.length))
theorem greatS_any (a : Option Addr) (cap : Nat) (L : List (Bool × ByteArray)) (w : World) (hL : L.length ≤ maxLen) (hz : ∀ x ∈ L, x.2.size ≤ maxLen) (h : Sl w a L) :
  Calls Tryz.prog 4 #[.slice a L.length cap] w fun e w' => e = .returned (.bool (grS L)) ∧ w' = w := by
 unfold maxLen at hL
 have HZ := Lib.hid hz
 have HC := Lib.hid h
 clear hz h
 go_enter Tryz.func4, Tryz.ntmps4
 go_wp2_with fail
 go_loopg [3] (L.length + 1) (fun gg v3 wr => ∃ (k : Nat), v3 = .int .i64 k ∧ k ≤ L.length ∧ L.length + 1 - k ≤ gg ∧ grB L = grB (L.drop k) ∧ wr = w)
 case atStart => exact ⟨0, rfl, by omega, by omega, rfl, rfl⟩
 case round =>
  obtain ⟨k, rfl, hk, hm, hgr, rfl⟩ := hrel
  have HG := Lib.hid hgr
  clear hgr
  by_cases hkl : k < L.length
  ·have hkI : (k : Int) < L.length := by omega
   obtain ⟨⟨n, s⟩, hx⟩ : ∃ x, L[k]? = some x := ⟨L[k], List.getElem?_eq_getElem hkl⟩
   have hs := HZ.out _ (List.mem_of_getElem? hx)
   obtain ⟨A, rfl, c0, c1⟩ := HC.out k n s hx
   have hdrop : grB (L.drop k) = (decide (8 < s.size) || grB (L.drop (k + 1))) := by
    obtain ⟨hj, e⟩ := List.getElem?_eq_some_iff.1 hx
    rw [List.drop_eq_getElem_cons hj, e]
    rfl
   have HD := Lib.hid hdrop
   clear c0 hx hdrop
   have hs1 : s.size ≤ 9223372036854775807 := by unfold maxLen at hs; simp at hs; omega
   clear hs
   have c2 : wr.cell? ⟨(A.add (k * 2)).block, (A.add (k * 2)).off + 1, none⟩ = some (.string s) := by rw [addr_next]; exact c1
   by_cases hc : 8 < s.size
   ·have HR := Lib.hid (show grS L = true by unfold grS; rw [HG.out, HD.out, decide_eq_true hc]; rfl)
    have hcd : (8 : Int) < s.size := by omega
    clear hc
    go_wp2
    go_ret
    exact ⟨by rw [HR.out]; rfl, rfl⟩
   ·have hcd : decide ((8 : Int) < s.size) = false := by simp; omega
    have HR := Lib.hid (show grB L = grB (L.drop (k + 1)) by rw [HG.out, HD.out, decide_eq_false hc]; rfl)
    clear hc
    go_wp2
    go_roundg (L.length - k)
    case rel => exact ⟨k + 1, by go_num, by omega, by omega, HR.out, rfl⟩
    case measure => omega
  ·have hkB : decide ((k : Int) < L.length) = false := by simp; omega
   have hkB2 : decide (k < L.length) = false := by simp; omega
   have HR := Lib.hid (show grB L = false by rw [HG.out, List.drop_eq_nil_of_le (by omega)]; rfl)
   clear hkl HG
   by_cases h8 : 8 < L.length
   ·have h8I : (8 : Int) < L.length := by omega
    by_cases h64 : L.length ≤ 64
    ·have h64I : (L.length : Int) ≤ 64 := by omega
     have HT := Lib.hid (show grS L = true by unfold grS; rw [HR.out, decide_eq_true h8, decide_eq_true h64]; rfl)
     go_wp2
     go_ret
     exact ⟨by rw [HT.out]; rfl, rfl⟩
    ·have h64I : decide ((L.length : Int) ≤ 64) = false := by simp; omega
     by_cases h67 : 67 < L.length
     ·have h67I : (67 : Int) < L.length := by omega
      have HT := Lib.hid (show grS L = true by unfold grS; rw [HR.out, decide_eq_true h8, decide_eq_false h64, decide_eq_true h67]; rfl)
      go_wp2
      go_ret
      exact ⟨by rw [HT.out]; rfl, rfl⟩
     ·have h67I : decide ((67 : Int) < L.length) = false := by simp; omega
      have HT := Lib.hid (show grS L = false by unfold grS; rw [HR.out, decide_eq_true h8, decide_eq_false h64, decide_eq_false h67]; rfl)
      go_wp2
      go_ret
      exact ⟨by rw [HT.out]; rfl, rfl⟩
   ·have h8I : decide ((8 : Int) < L.length) = false := by simp; omega
    have h67I : decide ((67 : Int) < L.length) = false := by simp; omega
    have HT := Lib.hid (show grS L = false by unfold grS; rw [HR.out, decide_eq_false h8, decide_eq_false (show ¬ 67 < L.length by omega)]; rfl)
    go_wp2
    go_ret
    exact ⟨by rw [HT.out]; rfl, rfl⟩
noncomputable def chkR : List (Bool × ByteArray) → Int
 | [] => 0
 | x :: r => open Classical in if Canon x.1 x.2 then (if iv x.1 x.2 < 0 then 2 else chkR r) else 1
noncomputable def chkW (L : List (Bool × ByteArray)) : Int := if L.length < 2 then 5 else if 64 < L.length then 4 else chkR L
theorem checkW_any (a : Option Addr) (cap : Nat) (L : List (Bool × ByteArray)) (w : World) (hL : L.length ≤ maxLen) (hz : ∀ x ∈ L, x.2.size ≤ 1000000) (h : Sl w a L) :
  Calls Tryz.prog 21 #[.slice a L.length cap] w fun e w' => e = .returned (.int .i64 (chkW L)) ∧ Below w.heap.size w w' := by
 unfold maxLen at hL
 have HZ := Lib.hid hz
 have HC := Lib.hid h
 clear hz h
 by_cases h2 : L.length < 2
 ·have h2I : (L.length : Int) < 2 := by omega
  have HT := Lib.hid (show chkW L = 5 by unfold chkW; rw [if_pos h2])
  clear h2
  go_enter Tryz.func21, Tryz.ntmps21
  go_wp2
  go_ret
  exact ⟨by rw [HT.out]; rfl, Below.refl _ _⟩
 have h2I : decide ((L.length : Int) < 2) = false := by simp; omega
 by_cases h64 : 64 < L.length
 ·have h64I : (64 : Int) < L.length := by omega
  have HT := Lib.hid (show chkW L = 4 by unfold chkW; rw [if_neg h2, if_pos h64])
  clear h2 h64
  go_enter Tryz.func21, Tryz.ntmps21
  go_wp2
  go_ret
  exact ⟨by rw [HT.out]; rfl, Below.refl _ _⟩
 have h64I : decide ((64 : Int) < L.length) = false := by simp; omega
 have HT := Lib.hid (show chkW L = chkR L by unfold chkW; rw [if_neg h2, if_neg h64])
 clear h2 h64
 go_enter Tryz.func21, Tryz.ntmps21
 go_wp2_with fail
 go_loopg [16] (L.length + 1) (fun gg v16 wr => ∃ (k : Nat), v16 = .int .i64 k ∧ k ≤ L.length ∧ L.length + 1 - k ≤ gg ∧ chkR L = chkR (L.drop k) ∧ Below w.heap.size w wr)
 case atStart => exact ⟨0, rfl, by omega, by omega, rfl, Below.refl _ _⟩
 case round =>
  obtain ⟨k, rfl, hk, hm, hgr, hb⟩ := hrel
  have HG := Lib.hid hgr
  have HB := Lib.hid hb
  clear hgr hb
  by_cases hkl : k < L.length
  ·have hkI : (k : Int) < L.length := by omega
   obtain ⟨⟨n, s⟩, hx⟩ : ∃ x, L[k]? = some x := ⟨L[k], List.getElem?_eq_getElem hkl⟩
   have hs := HZ.out _ (List.mem_of_getElem? hx)
   obtain ⟨A, rfl, c0, c1⟩ := (HC.out.below HB.out) k n s hx
   have hdrop : chkR (L.drop k) = (open Classical in if Canon n s then (if iv n s < 0 then 2 else chkR (L.drop (k + 1))) else 1) := by
    obtain ⟨hj, e⟩ := List.getElem?_eq_some_iff.1 hx
    rw [List.drop_eq_getElem_cons hj, e]
    rfl
   have HD := Lib.hid hdrop
   have c2 : wr.cell? ⟨(A.add (k * 2)).block, (A.add (k * 2)).off + 1, none⟩ = some (.string s) := by rw [addr_next]; exact c1
   have HS := Lib.hid hs
   clear hx hdrop hs
   have HB1 := Lib.hid (HB.out.alloc HB.out.size (.cells #[.bool n, .string s] 36))
   go_wp2_with fail
   have HX := Lib.hid (BC.new wr wr.heap.size #[.bool n, .string s] 36 rfl)
   obtain ⟨W1, hW1⟩ : ∃ W, wr.alloc (.cells #[.bool n, .string s] 36) = W := ⟨_, rfl⟩
   rw [hW1] at HB1 HX ⊢
   clear hW1 c0 c1 c2
   refine (Check_any n s _ (by have := HS.out; omega)).mono ?_
   rintro e w1 ⟨⟨r, rfl, hr0, hr1⟩, hb1⟩
   by_cases hc : Canon n s
   ·obtain rfl := hr0 hc
    have HC1 := Lib.hid hc
    have HB2 := Lib.hid (bstep HB1.out hb1)
    have HX2 := Lib.hid (HX.out.below hb1)
    clear hr0 hr1 hc hb1 HB1 HX
    have x0 := HX2.out.at 0 (.bool n) rfl
    have x1 := HX2.out.at 1 (.string s) rfl
    obtain ⟨z, hz⟩ : ∃ z, iv n s = z := ⟨_, rfl⟩
    have RP := Lib.hid (show Rp n s z from ⟨hz, by have := HS.out; omega⟩)
    have HZV := Lib.hid hz
    clear hz
    go_wp2_with fail
    refine (cCmp RP.out Rp.zero _).mono ?_
    rintro e w2 ⟨rfl, hb2⟩
    have HB3 := Lib.hid (bstep HB2.out hb2)
    clear hb2 x0 x1 HX2
    by_cases hneg : z < 0
    ·have hcd : cmpI z 0 < 0 := by unfold cmpI; rw [if_pos hneg]; decide
     have HR := Lib.hid (show chkW L = 2 by rw [HT.out, HG.out, HD.out, if_pos HC1.out, HZV.out, if_pos hneg])
     clear hneg
     go_wp2
     go_ret
     exact ⟨by rw [HR.out]; rfl, HB3.out⟩
    ·have hcd : decide (cmpI z 0 < 0) = false := by unfold cmpI; rw [if_neg hneg]; split <;> rfl
     have HR := Lib.hid (show chkR L = chkR (L.drop (k + 1)) by rw [HG.out, HD.out, if_pos HC1.out, HZV.out, if_neg hneg])
     clear hneg
     go_wp2
     go_roundg (L.length - k)
     case rel => exact ⟨k + 1, by go_num, by omega, by omega, HR.out, HB3.out⟩
     case measure => omega
   ·obtain rfl := hr1 hc
    have HB2 := Lib.hid (bstep HB1.out hb1)
    have HR := Lib.hid (show chkW L = 1 by rw [HT.out, HG.out, HD.out, if_neg hc])
    clear hr0 hr1 hc hb1 HB1 HX
    go_wp2
    go_ret
    exact ⟨by rw [HR.out]; rfl, HB2.out⟩
  ·have hkB : decide ((k : Int) < L.length) = false := by simp; omega
   have hkB2 : decide (k < L.length) = false := by simp; omega
   have HR := Lib.hid (show chkW L = 0 by rw [HT.out, HG.out, List.drop_eq_nil_of_le (by omega)]; rfl)
   clear hkl
   go_wp2
   go_ret
   exact ⟨by rw [HR.out]; rfl, HB.out⟩
theorem chkR_ok : ∀ {L : List (Bool × ByteArray)}, chkR L = 0 → ∃ Ws : List Nat, L = Ws.map fun z => (false, mg z)
 | [], _ => ⟨[], rfl⟩
 | (n, s) :: r, h => by
   unfold chkR at h
   by_cases hc : Canon n s
   ·rw [if_pos hc] at h
    by_cases hn : iv n s < 0
    ·rw [if_pos hn] at h; cases h
    ·rw [if_neg hn] at h
     obtain ⟨Ws, hW⟩ := chkR_ok h
     refine ⟨bv s.data.toList :: Ws, ?_⟩
     rw [List.map_cons, ← hW]
     congr 1
     obtain ⟨h1, h2⟩ := hc
     have : n = false := by
      rw [← h1]
      unfold iv at hn
      cases n with
      | false => rfl
      | true =>
        unfold sg
        simp at hn ⊢
        first | omega | (intro h; omega) | simp_all
     rw [this, h2]
   ·rw [if_neg hc] at h; cases h
theorem chkW_ok {L : List (Bool × ByteArray)} (h : chkW L = 0) : 2 ≤ L.length ∧ L.length ≤ 64 ∧ ∃ Ws : List Nat, L = Ws.map fun z => (false, mg z) := by
 unfold chkW at h
 split at h
 ·cases h
 ·split at h
  ·cases h
  ·exact ⟨by omega, by omega, chkR_ok h⟩
end Go.Proofs.Gv
