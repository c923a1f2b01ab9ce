/- What the walks of the laws on integers share. -/
import Derived.Test.YtghjjfknlnegpaaGreatGreatP
import Derived.Deep.DeepCutAuto
import Derived.BigQuiet
import Derived.Deep.QuietTactic
import Derived.Test.YtghjjfknlnegpaaGreatDivmemP
import Derived.Deep.RegionHeld3
import Derived.Deep.LoopGhost
import Derived.OpenShut
set_option linter.unusedSimpArgs false
set_option linter.unusedVariables false
namespace Go.Proofs.Gv
open Go Go.RowKit

/-- The box b holds the integer (n, s). -/
structure Bx (W : World) (b : Nat) (n : Bool) (s : ByteArray) : Prop where
  c0 : W.cell? ⟨b, 0, none⟩ = some (.bool n)
  c1 : W.cell? ⟨b, 1, none⟩ = some (.string s)
  z0 : W.frozen? ⟨b, 0, none⟩ = false
  z1 : W.frozen? ⟨b, 1, none⟩ = false
  lt : b < W.heap.size
theorem Bx.below {W W1 W' : World} {b : Nat} {n : Bool} {s : ByteArray} (h : Bx W b n s) (hb : Below W1.heap.size W1 W') (e : W1.heap = W.heap := by rfl) : Bx W' b n s := by
  have hlt : b < W1.heap.size := by rw [e]; exact h.lt
  have hc : ∀ o, W1.cell? ⟨b, o, none⟩ = W.cell? ⟨b, o, none⟩ := fun o => World.cell?_of_block (by rw [e])
  have hf : ∀ o, W1.frozen? ⟨b, o, none⟩ = W.frozen? ⟨b, o, none⟩ := fun o => by unfold World.frozen?; rw [e]
  exact ⟨(hb.cell (p := ⟨b, 0, none⟩) hlt).trans ((hc 0).trans h.c0), (hb.cell (p := ⟨b, 1, none⟩) hlt).trans ((hc 1).trans h.c1),
    (hb.frozen (p := ⟨b, 0, none⟩) hlt).trans ((hf 0).trans h.z0), (hb.frozen (p := ⟨b, 1, none⟩) hlt).trans ((hf 1).trans h.z1), Nat.lt_of_lt_of_le hlt hb.size⟩
theorem Bx.alloc {W : World} {b : Nat} {n : Bool} {s : ByteArray} (h : Bx W b n s) (o : Obj) : Bx (W.alloc o) b n s := by
  have hb := (Below.refl W.heap.size W).alloc (Nat.le_refl _) o
  exact h.below hb
theorem Bx.new (W : World) (b : Nat) (n : Bool) (s : ByteArray) (hb : b = W.heap.size) : Bx (W.alloc (.cells #[.bool n, .string s] 29)) b n s := by
  subst hb
  obtain ⟨a, b, c, d, e⟩ := blk_facts (heap_alloc_new W (.cells #[.bool n, .string s] 29))
  exact ⟨a, b, c, d, e⟩
theorem Bx.set {W : World} {b : Nat} {n n' : Bool} {s s' : ByteArray} (h : Bx W b n s) : Bx ((W.setCell ⟨b, 0, none⟩ (.bool n')).setCell ⟨b, 1, none⟩ (.string s')) b n' s' := by
  have e1 : (W.setCell ⟨b, 0, none⟩ (.bool n')).cell? ⟨b, 1, none⟩ = some (.string s) := (World.cell?_setCell_other _ _ _ _ (fun e => by have := congrArg Addr.off e; simp at this)).trans h.c1
  refine ⟨?_, World.cell?_setCell_same _ _ _ e1, ?_, ?_, by simpa using h.lt⟩
  · exact (World.cell?_setCell_other _ _ _ _ (fun e => by have := congrArg Addr.off e; simp at this)).trans (World.cell?_setCell_same _ _ _ h.c0)
  · rw [World.frozen?_setCell, World.frozen?_setCell]; exact h.z0
  · rw [World.frozen?_setCell, World.frozen?_setCell]; exact h.z1
theorem Bx.other {W : World} {b c : Nat} {n : Bool} {s : ByteArray} {u v : Value} (h : Bx W b n s) (hne : b ≠ c) : Bx ((W.setCell ⟨c, 0, none⟩ u).setCell ⟨c, 1, none⟩ v) b n s := by
  have e : ∀ (X : World) (o p : Nat) (y : Value), (X.setCell ⟨c, p, none⟩ y).cell? ⟨b, o, none⟩ = X.cell? ⟨b, o, none⟩ := fun X o p y => World.cell?_setCell_other _ _ _ _ (fun e => hne (congrArg Addr.block e).symm)
  refine ⟨(e _ _ _ _).trans ((e _ _ _ _).trans h.c0), (e _ _ _ _).trans ((e _ _ _ _).trans h.c1), ?_, ?_, by simpa using h.lt⟩
  · rw [World.frozen?_setCell, World.frozen?_setCell]; exact h.z0
  · rw [World.frozen?_setCell, World.frozen?_setCell]; exact h.z1
/-- Boxes of integers, by their cells. -/
def Bxs (L : List (Nat × Bool × ByteArray)) (W : World) : Prop := ∀ x ∈ L, Bx W x.1 x.2.1 x.2.2
theorem Bxs.nil (W : World) : Bxs [] W := fun x h => by cases h
theorem Bxs.cons {L : List (Nat × Bool × ByteArray)} {W : World} {b : Nat} {n : Bool} {s : ByteArray} (h : Bxs L W) (hb : Bx W b n s) : Bxs ((b, n, s) :: L) W := fun x hx => by
  rcases List.mem_cons.1 hx with rfl | hx
  · exact hb
  · exact h x hx
theorem Bxs.below {L : List (Nat × Bool × ByteArray)} {W W1 W' : World} (h : Bxs L W) (hb : Below W1.heap.size W1 W') (e : W1.heap = W.heap := by rfl) : Bxs L W' := fun x hx => (h x hx).below hb e
/-- A world that lies behind W, with what was there as it was. -/
structure Cl (W : World) where
  x : World
  h : Below W.heap.size W x
/-- A region that draws its order, reads, and calls what makes memory alone: walked once, in the order of the text. -/
theorem wp_region_cls {id : Nat} {Q : Exit → Act → World → Prop} {a : Act} {W : World} {l : List Oper} (hB : Region.lexB .any l.toArray = true)
    (h : wpQuiet Tryz.prog l.toArray (fun w' => ∃ u : Cl W, w' = u.x) (fun a' => ∀ w', (∃ u : Cl W, w' = u.x) → Q .normal a' w') l a) : (Code.region id l.toArray true).wp Tryz.prog Q a W :=
  wp_region_quiet (C := fun w' => ∃ u : Cl W, w' = u.x) (by kernel_rfl) hB ⟨⟨{ W with drawn := W.drawn + 1 }, ⟨rfl, rfl, rfl, Nat.le_refl _, fun _ _ => rfl⟩⟩, rfl⟩ (by simpa using h)
theorem quiet_cls {W : World} {f : Nat} {args : Array Value} {v : Value} (h : ∀ X, Calls Tryz.prog f args X fun e w' => e = .returned v ∧ Below X.heap.size X w') (u : Cl W) :
    Calls Tryz.prog f args u.x fun e w'' => e = .returned v ∧ ∃ u' : Cl W, w'' = u'.x :=
  (h u.x).mono fun _ w' ⟨he, hb⟩ => ⟨he, ⟨⟨w', bstep u.h hb⟩, rfl⟩⟩
theorem cls_some (W : World) : Nonempty (Cl W) := ⟨⟨W, Below.refl _ _⟩⟩

theorem cells_get {w : World} {B t i : Nat} {vs : Array Value} (h : w.heap[B]? = some (.cells vs t (0, 0))) : w.cell? ⟨B, i, none⟩ = vs[i]? := by
  simp only [World.cell?, h]; rfl

end Go.Proofs.Gv

namespace Go.Proofs.Gv
open Go Go.RowKit

/-- Sign and bytes are those of a canonical integer. -/
def Canon (na : Bool) (sa : ByteArray) : Prop := sg na (bv sa.data.toList) = na ∧ mg (bv sa.data.toList) = sa

set_option maxHeartbeats 800000 in
theorem Check_any (na : Bool) (sa : ByteArray) (w : World) (ha : sa.size ≤ 30000000) :
    Calls Tryz.prog 92 #[.agg #[.bool na, .string sa]] w fun e w' => (∃ r : Int, e = .returned (.int .i64 r) ∧ (Canon na sa → r = 0) ∧ (¬ Canon na sa → r = 1)) ∧ Below w.heap.size w w' := by
  have L1 := nlen_bv (s := sa)
  go_enter Tryz.func92, Tryz.ntmps92
  go_wp2
  obtain ⟨W, hW⟩ : ∃ W, w.alloc (.cells #[.bool na, .string sa] 29) = W := ⟨_, rfl⟩
  have HO := Lib.hid (Own.one w (.cells #[.bool na, .string sa] 29))
  rw [hW] at HO ⊢
  clear hW
  obtain ⟨a0, a1, a2, a3, a4⟩ := HO.out.blk 0 w.heap.size rfl rfl
  go_region_held3 (fun w' => w'.cell? ⟨w.heap.size, 0, none⟩ = some (.bool na) ∧ w'.cell? ⟨w.heap.size, 1, none⟩ = some (.string sa)) (go_keep) (first
    | (go_at_call 52; refine (digits_any na sa _ (by omega)).mono ?_; rintro e w1 ⟨A, c, rfl, hn, hb⟩; have HO1 := Lib.hid (HO.out.next hb); obtain ⟨k0, k1, k2, k3, k4⟩ := HO1.out.blk 0 w.heap.size rfl rfl; have Hn := Lib.hid hn; clear hb hn)
    | (go_at_call 42; refine (number_nt _ A c _ _ (by exact Hn.out.same) (by have := nlen_bv (s := sa); omega)).mono ?_; rintro e w2 ⟨rfl, hb2⟩; have HO2 := Lib.hid (HO1.out.next hb2); obtain ⟨m0, m1, m2, m3, m4⟩ := HO2.out.blk 0 w.heap.size rfl rfl; clear hb2))
  by_cases hc : Canon na sa
  · rw [eqI_iff.mpr hc]
    go_wp2
    refine bodyPost_ret (v := .int .i64 0) (by simp [results, Tryz.results92, go_sem]) rfl ?_
    exact ⟨⟨0, rfl, fun _ => rfl, fun h => absurd hc h⟩, HO2.out.below⟩
  · have t : eqI (sg na (bv sa.data.toList)) (mg (bv sa.data.toList)) na sa = false := by
      rw [Bool.eq_false_iff]; exact fun h => hc (eqI_iff.mp h)
    rw [t]
    go_wp2
    refine bodyPost_ret (v := .int .i64 1) (by simp [results, Tryz.results92, go_sem]) rfl ?_
    exact ⟨⟨1, rfl, fun h => absurd h hc, fun _ => rfl⟩, HO2.out.below⟩
end Go.Proofs.Gv

namespace Go.Proofs.Gv
open Go Go.RowKit

/-- Sign and bytes stand for the integer z. -/
structure Rp (n : Bool) (s : ByteArray) (z : Int) : Prop where
  val : iv n s = z
  sz : s.size ≤ 1000000
theorem p256 (N : Nat) : (256 : Nat) ^ N = 2 ^ (8 * N) := by rw [Nat.pow_mul]
theorem szB {x : Nat} (N : Nat) (h : x < 2 ^ (8 * N)) : (mg x).size ≤ N := size_mg (by rw [p256]; exact h)
theorem Rp.V {z : Int} (N : Nat) (h : z.natAbs < 2 ^ N) (hN : N ≤ 7900000) : Rp (sgn z) (mg z.natAbs) z :=
  ⟨iv_V z, Nat.le_trans (szB (N / 8 + 1) (Nat.lt_of_lt_of_le h (Nat.pow_le_pow_right (by decide) (by omega)))) (by omega)⟩
theorem bv_emp : bv (⟨#[]⟩ : ByteArray).data.toList = 0 := by rw [← mg_zero, bv_mg]
theorem Rp.zero : Rp false ⟨#[]⟩ 0 := ⟨by unfold iv; rw [bv_emp]; rfl, by decide⟩
theorem Rp.abs {n : Bool} {s : ByteArray} {z : Int} (h : Rp n s z) : z.natAbs = bv s.data.toList := by rw [← h.val, iv_abs]
theorem Rp.lt {n : Bool} {s : ByteArray} {z : Int} (h : Rp n s z) {k : Nat} (hk : s.size ≤ k) : z.natAbs < 2 ^ (8 * k) := by
  rw [← h.val, ← p256]
  exact Nat.lt_of_lt_of_le (iv_lt n s) (Nat.pow_le_pow_right (by decide) hk)
theorem Rp.neg {n : Bool} {s : ByteArray} {z : Int} (h : Rp n s z) (hz : z < 0) : n = true ∧ 0 < bv s.data.toList := by
  have hv := h.val
  unfold iv at hv
  cases n
  · simp at hv; omega
  · simp at hv; exact ⟨rfl, by omega⟩
theorem Rp.pos {n : Bool} {s : ByteArray} {z : Int} (h : Rp n s z) (hz : 0 ≤ z) : n = true → bv s.data.toList = 0 := by
  have hv := h.val
  unfold iv at hv
  rintro rfl
  simp at hv; omega

section
variable {na nb : Bool} {sa sb : ByteArray} {a b : Int}
theorem cAdd (ha : Rp na sa a) (hb : Rp nb sb b) (W : World) :
    Calls Tryz.prog 31 #[.agg #[.bool na, .string sa], .agg #[.bool nb, .string sb]] W fun e w' => e = .returned (.agg #[.bool (sgn (a + b)), .string (mg (a + b).natAbs)]) ∧ Below W.heap.size W w' := by
  have := Add_any na nb sa sb W (Nat.le_trans ha.sz (by decide)) (Nat.le_trans hb.sz (by decide))
  rwa [ha.val, hb.val] at this
theorem cSub (ha : Rp na sa a) (hb : Rp nb sb b) (W : World) :
    Calls Tryz.prog 41 #[.agg #[.bool na, .string sa], .agg #[.bool nb, .string sb]] W fun e w' => e = .returned (.agg #[.bool (sgn (a - b)), .string (mg (a - b).natAbs)]) ∧ Below W.heap.size W w' := by
  have := Sub_any na nb sa sb W (Nat.le_trans ha.sz (by decide)) (Nat.le_trans hb.sz (by decide))
  rwa [ha.val, hb.val] at this
theorem cMul (ha : Rp na sa a) (hb : Rp nb sb b) (W : World) :
    Calls Tryz.prog 32 #[.agg #[.bool na, .string sa], .agg #[.bool nb, .string sb]] W fun e w' => e = .returned (.agg #[.bool (sgn (a * b)), .string (mg (a * b).natAbs)]) ∧ Below W.heap.size W w' := by
  have := Mul_any na nb sa sb W (Nat.le_trans ha.sz (by decide)) (Nat.le_trans hb.sz (by decide))
  rwa [ha.val, hb.val] at this
theorem cNeg (ha : Rp na sa a) (W : World) :
    Calls Tryz.prog 72 #[.agg #[.bool na, .string sa]] W fun e w' => e = .returned (.agg #[.bool (sgn (-a)), .string (mg (-a).natAbs)]) ∧ Below W.heap.size W w' := by
  have := Neg_any na sa W (Nat.le_trans ha.sz (by decide))
  rwa [ha.val] at this
theorem cCmp (ha : Rp na sa a) (hb : Rp nb sb b) (W : World) :
    Calls Tryz.prog 66 #[.agg #[.bool na, .string sa], .agg #[.bool nb, .string sb]] W fun e w' => e = .returned (.int .i64 (cmpI a b)) ∧ Below W.heap.size W w' := by
  have := Compare_any na nb sa sb W (Nat.le_trans ha.sz (by decide)) (Nat.le_trans hb.sz (by decide))
  rwa [ha.val, hb.val] at this
theorem cDiv {q r : Int} (ha : Rp na sa a) (hb : Rp nb sb b) (hd : DivSpec a b q r) (h0 : b ≠ 0) (W : World) :
    Calls Tryz.prog 122 #[.agg #[.bool na, .string sa], .agg #[.bool nb, .string sb]] W fun e w' => e = .returned (.tuple #[.agg #[.bool (sgn q), .string (mg q.natAbs)], .agg #[.bool (sgn r), .string (mg r.natAbs)], .int .i64 0]) ∧ Below W.heap.size W w' := by
  have := Div_any na nb sa sb W (Nat.le_trans ha.sz (by decide)) (Nat.le_trans hb.sz (by decide)) (by rw [← hb.abs]; omega)
  rw [ha.val, hb.val] at this
  refine this.mono ?_
  rintro e w' ⟨q', r', rfl, hd', hbl⟩
  obtain ⟨rfl, rfl⟩ := div_uniq hd hd'
  exact ⟨rfl, hbl⟩
theorem cPower (n : Int) (ha : Rp na sa a) (h0 : 0 ≤ n) (h1 : n ≤ 4096) (h2 : n.toNat * bl a.natAbs ≤ 65536) (W : World) :
    Calls Tryz.prog 102 #[.agg #[.bool na, .string sa], .int .i64 n] W fun e w' => e = .returned (.tuple #[.agg #[.bool (sgn (a ^ n.toNat)), .string (mg (a ^ n.toNat).natAbs)], .int .i64 0]) ∧ Below W.heap.size W w' := by
  have := Power_any na sa n W (Nat.le_trans ha.sz (by decide)) (by omega) (by omega)
  have hE : powE a n = 0 := by unfold powE; rw [if_neg (by omega), if_neg (by omega)]
  have hV : powV a n = a ^ n.toNat := by unfold powV; rw [if_pos hE]
  rw [ha.val, hE, hV] at this
  exact this
theorem canon_V (z : Int) : Canon (sgn z) (mg z.natAbs) := by
  unfold Canon
  rw [bv_mg, sg_eq]
  refine ⟨?_, rfl⟩
  congr 1
  unfold sgn
  by_cases h : z < 0
  · simp [h]; omega
  · simp [h]; omega
end
theorem bl_lt {x N : Nat} (h : x < 2 ^ N) : bl x ≤ N := bl_le_iff.2 h
end Go.Proofs.Gv

namespace Go.Proofs.Gv
open Go Go.RowKit

theorem cmpI_congr {a b c d : Int} (h1 : a < b ↔ c < d) (h2 : b < a ↔ d < c) : cmpI a b = cmpI c d := by
  unfold cmpI
  by_cases e1 : a < b
  · rw [if_pos e1, if_pos (h1.1 e1)]
  · rw [if_neg e1, if_neg (mt h1.2 e1)]
    by_cases e2 : b < a
    · rw [if_pos e2, if_pos (h2.1 e2)]
    · rw [if_neg e2, if_neg (mt h2.2 e2)]
theorem cmpI_cases (a b : Int) : (a < b ∧ cmpI a b = -1 ∧ cmpI b a = 1) ∨ (a = b ∧ cmpI a b = 0 ∧ cmpI b a = 0) ∨ (b < a ∧ cmpI a b = 1 ∧ cmpI b a = -1) := by
  rcases Int.lt_trichotomy a b with h | h | h
  · exact .inl ⟨h, cmpI_lt h, cmpI_gt h⟩
  · subst h; exact .inr (.inl ⟨rfl, cmpI_eq a, cmpI_eq a⟩)
  · exact .inr (.inr ⟨h, cmpI_gt h, cmpI_lt h⟩)

theorem cmpI_lt0 (a b : Int) : decide (cmpI a b < 0) = decide (a < b) := by
  rcases cmpI_cases a b with ⟨h, e, _⟩ | ⟨h, e, _⟩ | ⟨h, e, _⟩ <;> rw [e]
  · rw [show decide (a < b) = true from decide_eq_true h]; rfl
  · rw [show decide (a < b) = false from decide_eq_false (by omega)]; rfl
  · rw [show decide (a < b) = false from decide_eq_false (by omega)]; rfl
end Go.Proofs.Gv

namespace Go.Proofs.Gv
open Go Go.RowKit

theorem cOf (z : Int) (h1 : -9223372036854775808 ≤ z) (h2 : z < 9223372036854775808) (W : World) : Calls Tryz.prog 23 #[.int .i64 z] W fun e w' => e = .returned (.agg #[.bool (sgn z), .string (mg z.natAbs)]) ∧ Below W.heap.size W w' := Of_any z W h1 h2
end Go.Proofs.Gv

namespace Go.Proofs.Gv
open Go Go.RowKit
/-- A box of any number of cells. -/
structure BC (W : World) (b : Nat) (l : List Value) : Prop where
  lt : b < W.heap.size
  cell : ∀ i v, l[i]? = some v → W.cell? ⟨b, i, none⟩ = some v
  fz : ∀ i, i < l.length → W.frozen? ⟨b, i, none⟩ = false
theorem BC.below {W W1 W' : World} {b : Nat} {l : List Value} (h : BC W b l) (hb : Below W1.heap.size W1 W') (e : W1.heap = W.heap := by rfl) : BC W' b l := by
  have hlt : b < W1.heap.size := by rw [e]; exact h.lt
  have hc : ∀ o, W1.cell? ⟨b, o, none⟩ = W.cell? ⟨b, o, none⟩ := fun o => World.cell?_of_block (by rw [e])
  have hf : ∀ o, W1.frozen? ⟨b, o, none⟩ = W.frozen? ⟨b, o, none⟩ := fun o => by unfold World.frozen?; rw [e]
  exact ⟨Nat.lt_of_lt_of_le hlt hb.size, fun i v hv => (hb.cell (p := ⟨b, i, none⟩) hlt).trans ((hc i).trans (h.cell i v hv)),
    fun i hi => (hb.frozen (p := ⟨b, i, none⟩) hlt).trans ((hf i).trans (h.fz i hi))⟩
theorem BC.alloc {W : World} {b : Nat} {l : List Value} (h : BC W b l) (o : Obj) : BC (W.alloc o) b l :=
  h.below ((Below.refl W.heap.size W).alloc (Nat.le_refl _) o)
theorem BC.set {W : World} {b : Nat} {l : List Value} (h : BC W b l) (i : Nat) (v : Value) (hi : i < l.length) : BC (W.setCell ⟨b, i, none⟩ v) b (l.set i v) := by
  refine ⟨by simpa using h.lt, fun j u hu => ?_, fun j hj => ?_⟩
  · by_cases hij : i = j
    · subst hij
      rw [List.getElem?_set_self hi] at hu
      obtain rfl := Option.some.inj hu
      exact World.cell?_setCell_same _ _ _ (h.cell i _ (List.getElem?_eq_getElem hi))
    · rw [List.getElem?_set_ne hij] at hu
      exact (World.cell?_setCell_other _ _ _ _ (fun e => hij (congrArg Addr.off e))).trans (h.cell j u hu)
  · rw [World.frozen?_setCell]; exact h.fz j (by simpa using hj)
theorem BC.other {W : World} {b c : Nat} {l : List Value} (h : BC W b l) (i : Nat) (v : Value) (hne : b ≠ c) : BC (W.setCell ⟨c, i, none⟩ v) b l :=
  ⟨by simpa using h.lt, fun j u hu => (World.cell?_setCell_other _ _ _ _ (fun e => hne (congrArg Addr.block e).symm)).trans (h.cell j u hu),
    fun j hj => by rw [World.frozen?_setCell]; exact h.fz j hj⟩
theorem BC.of {W : World} {b : Nat} {a : Array Value} {T : TypeId} (h : W.heap[b]? = some (.cells a T (0, 0))) : BC W b a.toList := by
  refine ⟨(Array.getElem?_eq_some_iff.1 h).1, fun i v hv => ?_, fun i hi => ?_⟩
  · rw [Array.getElem?_toList] at hv
    simp [World.cell?, h, hv]
  · simp [World.frozen?, h]
theorem BC.new (W : World) (b : Nat) (a : Array Value) (T : TypeId) (hb : b = W.heap.size) : BC (W.alloc (.cells a T)) b a.toList := by
  subst hb
  exact BC.of (T := T) (heap_alloc_new W (.cells a T))
/-- Boxes, by their cells. -/
def BCs (L : List (Nat × List Value)) (W : World) : Prop := ∀ x ∈ L, BC W x.1 x.2
theorem BCs.nil (W : World) : BCs [] W := fun x h => by cases h
theorem BCs.cons {L : List (Nat × List Value)} {W : World} {b : Nat} {l : List Value} (h : BCs L W) (hb : BC W b l) : BCs ((b, l) :: L) W := fun x hx => by
  rcases List.mem_cons.1 hx with rfl | hx
  · exact hb
  · exact h x hx
theorem BCs.below {L : List (Nat × List Value)} {W W1 W' : World} (h : BCs L W) (hb : Below W1.heap.size W1 W') (e : W1.heap = W.heap := by rfl) : BCs L W' := fun x hx => (h x hx).below hb e
theorem BCs.push {L : List (Nat × List Value)} {W : World} (h : BCs L W) (b : Nat) (a : Array Value) (T : TypeId) (hb : b = W.heap.size) : BCs ((b, a.toList) :: L) (W.alloc (.cells a T)) :=
  BCs.cons (fun x hx => (h x hx).alloc _) (BC.new W b a T hb)
/-- Two cells of a box set one behind the other. -/
theorem BC.set2 {W : World} {b : Nat} {l : List Value} (h : BC W b l) (i j : Nat) (u v : Value) (hi : i < l.length) (hj : j < l.length) :
    BC ((W.setCell ⟨b, i, none⟩ u).setCell ⟨b, j, none⟩ v) b ((l.set i u).set j v) := (h.set i u hi).set j v (by simpa using hj)
theorem BC.other2 {W : World} {b c : Nat} {l : List Value} (h : BC W b l) (i j : Nat) (u v : Value) (hne : b ≠ c) : BC ((W.setCell ⟨c, i, none⟩ u).setCell ⟨c, j, none⟩ v) b l := (h.other i u hne).other j v hne
/-- What the walk reads of a box. -/
theorem BC.at {W : World} {b : Nat} {l : List Value} (h : BC W b l) (i : Nat) (v : Value) (e : l[i]? = some v := by rfl) : W.cell? ⟨b, i, none⟩ = some v := h.cell i v e
theorem BC.z {W : World} {b : Nat} {l : List Value} (h : BC W b l) (i : Nat) (e : i < l.length := by decide) : W.frozen? ⟨b, i, none⟩ = false := h.fz i e
theorem BC.z2 {W : World} {b : Nat} {v0 v1 : Value} {l : List Value} (h : BC W b (v0 :: v1 :: l)) : W.frozen? ⟨b, 0, none⟩ = false ∧ W.frozen? ⟨b, 1, none⟩ = false := ⟨h.z 0 (by simp), h.z 1 (by simp)⟩
theorem BC.z4 {W : World} {b : Nat} {v0 v1 v2 v3 : Value} {l : List Value} (h : BC W b (v0 :: v1 :: v2 :: v3 :: l)) : W.frozen? ⟨b, 0, none⟩ = false ∧ W.frozen? ⟨b, 1, none⟩ = false ∧ W.frozen? ⟨b, 2, none⟩ = false ∧ W.frozen? ⟨b, 3, none⟩ = false := ⟨h.z 0 (by simp), h.z 1 (by simp), h.z 2 (by simp), h.z 3 (by simp)⟩
end Go.Proofs.Gv

namespace Go.Proofs.Gv
open Go Go.RowKit

/-- A slice reads as these integers. -/
def Sl (W : World) (a : Option Addr) (L : List (Bool × ByteArray)) : Prop :=
  ∀ (i : Nat) (n : Bool) (s : ByteArray), L[i]? = some (n, s) → ∃ A, a = some A ∧ W.cell? (A.add (i * 2)) = some (.bool n) ∧ W.cell? (A.add (i * 2 + 1)) = some (.string s)
theorem Sl.below {W W' : World} {a : Option Addr} {L : List (Bool × ByteArray)} (h : Sl W a L) (hb : Below W.heap.size W W') : Sl W' a L := fun i n s hi => by
  obtain ⟨A, e, c0, c1⟩ := h i n s hi
  exact ⟨A, e, (hb.cell (World.block_lt_of_cell? _ _ c0)).trans c0, (hb.cell (World.block_lt_of_cell? _ _ c1)).trans c1⟩
theorem Sl.lt {W : World} {a : Option Addr} {L : List (Bool × ByteArray)} (h : Sl W a L) (hl : 0 < L.length) : ∀ A, a = some A → A.block < W.heap.size := fun A e => by
  obtain ⟨A', e', c0, -⟩ := h 0 L[0].1 L[0].2 (List.getElem?_eq_getElem hl)
  rw [e] at e'
  cases e'
  exact World.block_lt_of_cell? _ (A.add (0 * 2)) c0
theorem addr_next (A : Addr) (n : Nat) : (⟨(A.add n).block, (A.add n).off + 1, none⟩ : Addr) = A.add (n + 1) := by
  unfold Addr.add
  by_cases h : n = 0
  · subst h; simp
  · simp [h]; omega
/-- More, or longer, than the statements examine. -/
def grB (L : List (Bool × ByteArray)) : Bool := L.any fun x => decide (8 < x.2.size)
def grS (L : List (Bool × ByteArray)) : Bool := grB L || (decide (8 < L.length) && decide (L.length ≤ 64) || decide (67 < L.length))
set_option maxRecDepth 100000 in
set_option maxHeartbeats 1600000 in
theorem greatS_any (a : Option Addr) (cap : Nat) (L : List (Bool × ByteArray)) (w : World) (hL : L.length ≤ maxLen) (hz : ∀ x ∈ L, x.2.size ≤ maxLen) (h : Sl w a L) :
    Calls Tryz.prog 15 #[.slice a L.length cap] w fun e w' => e = .returned (.bool (grS L)) ∧ w' = w := by
  unfold maxLen at hL
  have HZ := Lib.hid hz
  have HC := Lib.hid h
  clear hz h
  go_enter Tryz.func15, Tryz.ntmps15
  go_wp2_with fail
  go_loopg [3] (L.length + 1) (fun gg v3 wr => ∃ (k : Nat), v3 = .int .i64 k ∧ k ≤ L.length ∧ L.length + 1 - k ≤ gg ∧ grB L = grB (L.drop k) ∧ wr = w)
  case atStart => exact ⟨0, rfl, by omega, by omega, rfl, rfl⟩
  case round =>
    obtain ⟨k, rfl, hk, hm, hgr, rfl⟩ := hrel
    have HG := Lib.hid hgr
    clear hgr
    by_cases hkl : k < L.length
    · have hkI : (k : Int) < L.length := by omega
      obtain ⟨⟨n, s⟩, hx⟩ : ∃ x, L[k]? = some x := ⟨L[k], List.getElem?_eq_getElem hkl⟩
      have hs := HZ.out _ (List.mem_of_getElem? hx)
      obtain ⟨A, rfl, c0, c1⟩ := HC.out k n s hx
      have hdrop : grB (L.drop k) = (decide (8 < s.size) || grB (L.drop (k + 1))) := by
        obtain ⟨hj, e⟩ := List.getElem?_eq_some_iff.1 hx
        rw [List.drop_eq_getElem_cons hj, e]
        rfl
      have HD := Lib.hid hdrop
      clear c0 hx hdrop
      have hs1 : s.size ≤ 9223372036854775807 := by unfold maxLen at hs; simp at hs; omega
      clear hs
      have c2 : wr.cell? ⟨(A.add (k * 2)).block, (A.add (k * 2)).off + 1, none⟩ = some (.string s) := by rw [addr_next]; exact c1
      by_cases hc : 8 < s.size
      · have HR := Lib.hid (show grS L = true by unfold grS; rw [HG.out, HD.out, decide_eq_true hc]; rfl)
        have hcd : (8 : Int) < s.size := by omega
        clear hc
        go_wp2
        go_ret
        exact ⟨by rw [HR.out]; rfl, rfl⟩
      · have hcd : decide ((8 : Int) < s.size) = false := by simp; omega
        have HR := Lib.hid (show grB L = grB (L.drop (k + 1)) by rw [HG.out, HD.out, decide_eq_false hc]; rfl)
        clear hc
        go_wp2
        go_roundg (L.length - k)
        case rel => exact ⟨k + 1, by go_num, by omega, by omega, HR.out, rfl⟩
        case measure => omega
    · have hkB : decide ((k : Int) < L.length) = false := by simp; omega
      have hkB2 : decide (k < L.length) = false := by simp; omega
      have HR := Lib.hid (show grB L = false by rw [HG.out, List.drop_eq_nil_of_le (by omega)]; rfl)
      clear hkl HG
      by_cases h8 : 8 < L.length
      · have h8I : (8 : Int) < L.length := by omega
        by_cases h64 : L.length ≤ 64
        · have h64I : (L.length : Int) ≤ 64 := by omega
          have HT := Lib.hid (show grS L = true by unfold grS; rw [HR.out, decide_eq_true h8, decide_eq_true h64]; rfl)
          go_wp2
          go_ret
          exact ⟨by rw [HT.out]; rfl, rfl⟩
        · have h64I : decide ((L.length : Int) ≤ 64) = false := by simp; omega
          by_cases h67 : 67 < L.length
          · have h67I : (67 : Int) < L.length := by omega
            have HT := Lib.hid (show grS L = true by unfold grS; rw [HR.out, decide_eq_true h8, decide_eq_false h64, decide_eq_true h67]; rfl)
            go_wp2
            go_ret
            exact ⟨by rw [HT.out]; rfl, rfl⟩
          · have h67I : decide ((67 : Int) < L.length) = false := by simp; omega
            have HT := Lib.hid (show grS L = false by unfold grS; rw [HR.out, decide_eq_true h8, decide_eq_false h64, decide_eq_false h67]; rfl)
            go_wp2
            go_ret
            exact ⟨by rw [HT.out]; rfl, rfl⟩
      · have h8I : decide ((8 : Int) < L.length) = false := by simp; omega
        have h67I : decide ((67 : Int) < L.length) = false := by simp; omega
        have HT := Lib.hid (show grS L = false by unfold grS; rw [HR.out, decide_eq_false h8, decide_eq_false (show ¬ 67 < L.length by omega)]; rfl)
        go_wp2
        go_ret
        exact ⟨by rw [HT.out]; rfl, rfl⟩
/-- The first error of weights. -/
noncomputable def chkR : List (Bool × ByteArray) → Int
  | [] => 0
  | x :: r => open Classical in if Canon x.1 x.2 then (if iv x.1 x.2 < 0 then 2 else chkR r) else 1
noncomputable def chkW (L : List (Bool × ByteArray)) : Int := if L.length < 2 then 5 else if 64 < L.length then 4 else chkR L
set_option maxRecDepth 100000 in
set_option maxHeartbeats 1600000 in
theorem checkW_any (a : Option Addr) (cap : Nat) (L : List (Bool × ByteArray)) (w : World) (hL : L.length ≤ maxLen) (hz : ∀ x ∈ L, x.2.size ≤ 1000000) (h : Sl w a L) :
    Calls Tryz.prog 67 #[.slice a L.length cap] w fun e w' => e = .returned (.int .i64 (chkW L)) ∧ Below w.heap.size w w' := by
  unfold maxLen at hL
  have HZ := Lib.hid hz
  have HC := Lib.hid h
  clear hz h
  by_cases h2 : L.length < 2
  · have h2I : (L.length : Int) < 2 := by omega
    have HT := Lib.hid (show chkW L = 5 by unfold chkW; rw [if_pos h2])
    clear h2
    go_enter Tryz.func67, Tryz.ntmps67
    go_wp2
    go_ret
    exact ⟨by rw [HT.out]; rfl, Below.refl _ _⟩
  have h2I : decide ((L.length : Int) < 2) = false := by simp; omega
  by_cases h64 : 64 < L.length
  · have h64I : (64 : Int) < L.length := by omega
    have HT := Lib.hid (show chkW L = 4 by unfold chkW; rw [if_neg h2, if_pos h64])
    clear h2 h64
    go_enter Tryz.func67, Tryz.ntmps67
    go_wp2
    go_ret
    exact ⟨by rw [HT.out]; rfl, Below.refl _ _⟩
  have h64I : decide ((64 : Int) < L.length) = false := by simp; omega
  have HT := Lib.hid (show chkW L = chkR L by unfold chkW; rw [if_neg h2, if_neg h64])
  clear h2 h64
  go_enter Tryz.func67, Tryz.ntmps67
  go_wp2_with fail
  go_loopg [16] (L.length + 1) (fun gg v16 wr => ∃ (k : Nat), v16 = .int .i64 k ∧ k ≤ L.length ∧ L.length + 1 - k ≤ gg ∧ chkR L = chkR (L.drop k) ∧ Below w.heap.size w wr)
  case atStart => exact ⟨0, rfl, by omega, by omega, rfl, Below.refl _ _⟩
  case round =>
    obtain ⟨k, rfl, hk, hm, hgr, hb⟩ := hrel
    have HG := Lib.hid hgr
    have HB := Lib.hid hb
    clear hgr hb
    by_cases hkl : k < L.length
    · have hkI : (k : Int) < L.length := by omega
      obtain ⟨⟨n, s⟩, hx⟩ : ∃ x, L[k]? = some x := ⟨L[k], List.getElem?_eq_getElem hkl⟩
      have hs := HZ.out _ (List.mem_of_getElem? hx)
      obtain ⟨A, rfl, c0, c1⟩ := (HC.out.below HB.out) k n s hx
      have hdrop : chkR (L.drop k) = (open Classical in if Canon n s then (if iv n s < 0 then 2 else chkR (L.drop (k + 1))) else 1) := by
        obtain ⟨hj, e⟩ := List.getElem?_eq_some_iff.1 hx
        rw [List.drop_eq_getElem_cons hj, e]
        rfl
      have HD := Lib.hid hdrop
      have c2 : wr.cell? ⟨(A.add (k * 2)).block, (A.add (k * 2)).off + 1, none⟩ = some (.string s) := by rw [addr_next]; exact c1
      have HS := Lib.hid hs
      clear hx hdrop hs
      have HB1 := Lib.hid (HB.out.alloc HB.out.size (.cells #[.bool n, .string s] 29))
      go_wp2_with fail
      have HX := Lib.hid (BC.new wr wr.heap.size #[.bool n, .string s] 29 rfl)
      obtain ⟨W1, hW1⟩ : ∃ W, wr.alloc (.cells #[.bool n, .string s] 29) = W := ⟨_, rfl⟩
      rw [hW1] at HB1 HX ⊢
      clear hW1 c0 c1 c2
      refine (Check_any n s _ (by have := HS.out; omega)).mono ?_
      rintro e w1 ⟨⟨r, rfl, hr0, hr1⟩, hb1⟩
      by_cases hc : Canon n s
      · obtain rfl := hr0 hc
        have HC1 := Lib.hid hc
        have HB2 := Lib.hid (bstep HB1.out hb1)
        have HX2 := Lib.hid (HX.out.below hb1)
        clear hr0 hr1 hc hb1 HB1 HX
        have x0 := HX2.out.at 0 (.bool n) rfl
        have x1 := HX2.out.at 1 (.string s) rfl
        obtain ⟨z, hz⟩ : ∃ z, iv n s = z := ⟨_, rfl⟩
        have RP := Lib.hid (show Rp n s z from ⟨hz, by have := HS.out; omega⟩)
        have HZV := Lib.hid hz
        clear hz
        go_wp2_with fail
        refine (cCmp RP.out Rp.zero _).mono ?_
        rintro e w2 ⟨rfl, hb2⟩
        have HB3 := Lib.hid (bstep HB2.out hb2)
        clear hb2 x0 x1 HX2
        by_cases hneg : z < 0
        · have hcd : cmpI z 0 < 0 := by unfold cmpI; rw [if_pos hneg]; decide
          have HR := Lib.hid (show chkW L = 2 by rw [HT.out, HG.out, HD.out, if_pos HC1.out, HZV.out, if_pos hneg])
          clear hneg
          go_wp2
          go_ret
          exact ⟨by rw [HR.out]; rfl, HB3.out⟩
        · have hcd : decide (cmpI z 0 < 0) = false := by unfold cmpI; rw [if_neg hneg]; split <;> rfl
          have HR := Lib.hid (show chkR L = chkR (L.drop (k + 1)) by rw [HG.out, HD.out, if_pos HC1.out, HZV.out, if_neg hneg])
          clear hneg
          go_wp2
          go_roundg (L.length - k)
          case rel => exact ⟨k + 1, by go_num, by omega, by omega, HR.out, HB3.out⟩
          case measure => omega
      · obtain rfl := hr1 hc
        have HB2 := Lib.hid (bstep HB1.out hb1)
        have HR := Lib.hid (show chkW L = 1 by rw [HT.out, HG.out, HD.out, if_neg hc])
        clear hr0 hr1 hc hb1 HB1 HX
        go_wp2
        go_ret
        exact ⟨by rw [HR.out]; rfl, HB2.out⟩
    · have hkB : decide ((k : Int) < L.length) = false := by simp; omega
      have hkB2 : decide (k < L.length) = false := by simp; omega
      have HR := Lib.hid (show chkW L = 0 by rw [HT.out, HG.out, List.drop_eq_nil_of_le (by omega)]; rfl)
      clear hkl
      go_wp2
      go_ret
      exact ⟨by rw [HR.out]; rfl, HB.out⟩
/-- Valid weights are written as they should be. -/
theorem chkR_ok : ∀ {L : List (Bool × ByteArray)}, chkR L = 0 → ∃ Ws : List Nat, L = Ws.map fun z => (false, mg z)
  | [], _ => ⟨[], rfl⟩
  | (n, s) :: r, h => by
    unfold chkR at h
    by_cases hc : Canon n s
    · rw [if_pos hc] at h
      by_cases hn : iv n s < 0
      · rw [if_pos hn] at h; cases h
      · rw [if_neg hn] at h
        obtain ⟨Ws, hW⟩ := chkR_ok h
        refine ⟨bv s.data.toList :: Ws, ?_⟩
        rw [List.map_cons, ← hW]
        congr 1
        obtain ⟨h1, h2⟩ := hc
        have : n = false := by
          rw [← h1]
          unfold iv at hn
          cases n with
          | false => rfl
          | true =>
            unfold sg
            simp at hn ⊢
            first | omega | (intro h; omega) | simp_all
        rw [this, h2]
    · rw [if_neg hc] at h; cases h
theorem chkW_ok {L : List (Bool × ByteArray)} (h : chkW L = 0) : 2 ≤ L.length ∧ L.length ≤ 64 ∧ ∃ Ws : List Nat, L = Ws.map fun z => (false, mg z) := by
  unfold chkW at h
  split at h
  · cases h
  · split at h
    · cases h
    · exact ⟨by omega, by omega, chkR_ok h⟩
end Go.Proofs.Gv
