/- The examples of the chapter on integers. -/
import Derived.Test.YtamempcabmlodaaDoorBuilderP
import Derived.Test.YtamempcabmlodaaDoorIntDP
import Derived.Test.YtamempcabmlodaaDoorIntEqP
import Derived.Test.YtamempcabmlodaaDoorIntCP
import Derived.Test.YtamempcabmlodaaDoorPrint
import Derived.Deep.RegionHeld3
import Derived.Deep.DeepCutAuto
import Derived.BigQuiet
import Derived.Deep.QuietTactic
set_option linter.unusedSimpArgs false
set_option linter.unusedVariables false
namespace Go.Proofs.Gv
open Go Go.RowKit

theorem vsize {z : Int} (h : z.natAbs < 256 ^ 60) : (mg z.natAbs).size ≤ 60 := size_mg h
theorem vs {z : Int} (h : z.natAbs < 256 ^ 60) : (mg z.natAbs).size ≤ 1000000 := Nat.le_trans (vsize h) (by decide)
theorem div_uniq {a b q r q' r' : Int} (h : DivSpec a b q r) (h' : DivSpec a b q' r') : q = q' ∧ r = r' := by
  obtain ⟨e, h⟩ := h
  obtain ⟨e', h'⟩ := h'
  have hq : (q - q') * b = r' - r := by rw [Int.sub_mul]; omega
  have hz : q - q' = 0 := by
    rcases Int.lt_trichotomy (q - q') 0 with h1 | h1 | h1
    · rcases h with h | h <;> rcases h' with h' | h'
      · have : (q - q') * b ≤ (-1) * b := Int.mul_le_mul_of_nonneg_right (by omega) (by omega)
        omega
      · omega
      · omega
      · have : (-1) * b ≤ (q - q') * b := Int.mul_le_mul_of_nonpos_right (by omega) (by omega)
        omega
    · exact h1
    · rcases h with h | h <;> rcases h' with h' | h'
      · have : 1 * b ≤ (q - q') * b := Int.mul_le_mul_of_nonneg_right (by omega) (by omega)
        omega
      · omega
      · omega
      · have : (q - q') * b ≤ 1 * b := Int.mul_le_mul_of_nonpos_right (by omega) (by omega)
        omega
  have : q = q' := by omega
  subst this
  exact ⟨rfl, by omega⟩

/-- Boxes of integers. -/
def Boxes (L : List (Nat × Bool × ByteArray)) (W : World) : Prop := ∀ x ∈ L, W.heap[x.1]? = some (.cells #[.bool x.2.1, .string x.2.2] 23 (0, 0))
theorem Boxes.nil (W : World) : Boxes [] W := fun x h => by cases h
theorem Boxes.below {L : List (Nat × Bool × ByteArray)} {W W1 W' : World} (h : Boxes L W) (hb : Below W1.heap.size W1 W') (e : W1.heap = W.heap := by rfl) : Boxes L W' := fun x hx => by
  have h1 := h x hx
  rw [hb.block _ (by rw [e]; exact (Array.getElem?_eq_some_iff.1 h1).1), e]
  exact h1
theorem Boxes.push {L : List (Nat × Bool × ByteArray)} {W : World} (h : Boxes L W) (n : Bool) (s : ByteArray) : Boxes ((W.heap.size, n, s) :: L) (W.alloc (.cells #[.bool n, .string s] 23)) := fun x hx => by
  rcases List.mem_cons.1 hx with rfl | hx
  · exact heap_alloc_new W _
  · have h1 := h x hx
    rw [Below.heap_alloc W _ _ (Array.getElem?_eq_some_iff.1 h1).1]
    exact h1
end Go.Proofs.Gv

namespace Go.Proofs.Gv
open Go Go.RowKit

/-- One call more that makes memory alone. -/
theorem bstep {w W W1 W' : World} (h : Below w.heap.size w W) (hb : Below W1.heap.size W1 W') (e1 : W1.heap = W.heap := by rfl) (e2 : W1.os = W.os := by rfl) (e3 : W1.tape = W.tape := by rfl) (e4 : W1.output = W.output := by rfl) : Below w.heap.size w W' := by
  have hb' : Below W.heap.size W W' := ⟨hb.os.trans e2, hb.tape.trans e3, hb.output.trans e4, by rw [← e1]; exact hb.size, fun k hk => by rw [← e1]; exact hb.block k (by rw [e1]; exact hk)⟩
  exact h.trans (hb'.mono h.size)

end Go.Proofs.Gv

namespace Go.Proofs.Gv
open Go Go.RowKit

/-- The rows of integers that great is handed. -/
def gr (L : List (Bool × ByteArray)) : Bool := L.any fun x => decide (60 < x.2.size)

end Go.Proofs.Gv

namespace Go.Proofs.Gv
open Go Go.RowKit

/-- The box b holds the integer (n, s). -/
structure Bx (W : World) (b : Nat) (n : Bool) (s : ByteArray) : Prop where
  c0 : W.cell? ⟨b, 0, none⟩ = some (.bool n)
  c1 : W.cell? ⟨b, 1, none⟩ = some (.string s)
  z0 : W.frozen? ⟨b, 0, none⟩ = false
  z1 : W.frozen? ⟨b, 1, none⟩ = false
  lt : b < W.heap.size
theorem Bx.below {W W1 W' : World} {b : Nat} {n : Bool} {s : ByteArray} (h : Bx W b n s) (hb : Below W1.heap.size W1 W') (e : W1.heap = W.heap := by rfl) : Bx W' b n s := by
  have hlt : b < W1.heap.size := by rw [e]; exact h.lt
  have hc : ∀ o, W1.cell? ⟨b, o, none⟩ = W.cell? ⟨b, o, none⟩ := fun o => World.cell?_of_block (by rw [e])
  have hf : ∀ o, W1.frozen? ⟨b, o, none⟩ = W.frozen? ⟨b, o, none⟩ := fun o => by unfold World.frozen?; rw [e]
  exact ⟨(hb.cell (p := ⟨b, 0, none⟩) hlt).trans ((hc 0).trans h.c0), (hb.cell (p := ⟨b, 1, none⟩) hlt).trans ((hc 1).trans h.c1),
    (hb.frozen (p := ⟨b, 0, none⟩) hlt).trans ((hf 0).trans h.z0), (hb.frozen (p := ⟨b, 1, none⟩) hlt).trans ((hf 1).trans h.z1), Nat.lt_of_lt_of_le hlt hb.size⟩
theorem Bx.alloc {W : World} {b : Nat} {n : Bool} {s : ByteArray} (h : Bx W b n s) (o : Obj) : Bx (W.alloc o) b n s := by
  have hb := (Below.refl W.heap.size W).alloc (Nat.le_refl _) o
  exact h.below hb
theorem Bx.new (W : World) (b : Nat) (n : Bool) (s : ByteArray) (hb : b = W.heap.size) : Bx (W.alloc (.cells #[.bool n, .string s] 23)) b n s := by
  subst hb
  obtain ⟨a, b, c, d, e⟩ := blk_facts (heap_alloc_new W (.cells #[.bool n, .string s] 23))
  exact ⟨a, b, c, d, e⟩
theorem Bx.set {W : World} {b : Nat} {n n' : Bool} {s s' : ByteArray} (h : Bx W b n s) : Bx ((W.setCell ⟨b, 0, none⟩ (.bool n')).setCell ⟨b, 1, none⟩ (.string s')) b n' s' := by
  have e1 : (W.setCell ⟨b, 0, none⟩ (.bool n')).cell? ⟨b, 1, none⟩ = some (.string s) := (World.cell?_setCell_other _ _ _ _ (fun e => by have := congrArg Addr.off e; simp at this)).trans h.c1
  refine ⟨?_, World.cell?_setCell_same _ _ _ e1, ?_, ?_, by simpa using h.lt⟩
  · exact (World.cell?_setCell_other _ _ _ _ (fun e => by have := congrArg Addr.off e; simp at this)).trans (World.cell?_setCell_same _ _ _ h.c0)
  · rw [World.frozen?_setCell, World.frozen?_setCell]; exact h.z0
  · rw [World.frozen?_setCell, World.frozen?_setCell]; exact h.z1
theorem Bx.other {W : World} {b c : Nat} {n : Bool} {s : ByteArray} {u v : Value} (h : Bx W b n s) (hne : b ≠ c) : Bx ((W.setCell ⟨c, 0, none⟩ u).setCell ⟨c, 1, none⟩ v) b n s := by
  have e : ∀ (X : World) (o p : Nat) (y : Value), (X.setCell ⟨c, p, none⟩ y).cell? ⟨b, o, none⟩ = X.cell? ⟨b, o, none⟩ := fun X o p y => World.cell?_setCell_other _ _ _ _ (fun e => hne (congrArg Addr.block e).symm)
  refine ⟨(e _ _ _ _).trans ((e _ _ _ _).trans h.c0), (e _ _ _ _).trans ((e _ _ _ _).trans h.c1), ?_, ?_, by simpa using h.lt⟩
  · rw [World.frozen?_setCell, World.frozen?_setCell]; exact h.z0
  · rw [World.frozen?_setCell, World.frozen?_setCell]; exact h.z1
/-- Boxes of integers, by their cells. -/
def Bxs (L : List (Nat × Bool × ByteArray)) (W : World) : Prop := ∀ x ∈ L, Bx W x.1 x.2.1 x.2.2
theorem Bxs.nil (W : World) : Bxs [] W := fun x h => by cases h
theorem Bxs.cons {L : List (Nat × Bool × ByteArray)} {W : World} {b : Nat} {n : Bool} {s : ByteArray} (h : Bxs L W) (hb : Bx W b n s) : Bxs ((b, n, s) :: L) W := fun x hx => by
  rcases List.mem_cons.1 hx with rfl | hx
  · exact hb
  · exact h x hx
theorem Bxs.below {L : List (Nat × Bool × ByteArray)} {W W1 W' : World} (h : Bxs L W) (hb : Below W1.heap.size W1 W') (e : W1.heap = W.heap := by rfl) : Bxs L W' := fun x hx => (h x hx).below hb e
/-- A world that lies behind W, with what was there as it was. -/
structure Cl (W : World) where
  x : World
  h : Below W.heap.size W x
/-- A region that draws its order, reads, and calls what makes memory alone: walked once, in the order of the text. -/
theorem wp_region_cls {id : Nat} {Q : Exit → Act → World → Prop} {a : Act} {W : World} {l : List Oper} (hB : Region.lexB .any l.toArray = true)
    (h : wpQuiet Tryd.prog l.toArray (fun w' => ∃ u : Cl W, w' = u.x) (fun a' => ∀ w', (∃ u : Cl W, w' = u.x) → Q .normal a' w') l a) : (Code.region id l.toArray true).wp Tryd.prog Q a W :=
  wp_region_quiet (C := fun w' => ∃ u : Cl W, w' = u.x) (by kernel_rfl) hB ⟨⟨{ W with drawn := W.drawn + 1 }, ⟨rfl, rfl, rfl, Nat.le_refl _, fun _ _ => rfl⟩⟩, rfl⟩ (by simpa using h)
theorem quiet_cls {W : World} {f : Nat} {args : Array Value} {v : Value} (h : ∀ X, Calls Tryd.prog f args X fun e w' => e = .returned v ∧ Below X.heap.size X w') (u : Cl W) :
    Calls Tryd.prog f args u.x fun e w'' => e = .returned v ∧ ∃ u' : Cl W, w'' = u'.x :=
  (h u.x).mono fun _ w' ⟨he, hb⟩ => ⟨he, ⟨⟨w', bstep u.h hb⟩, rfl⟩⟩
theorem cls_some (W : World) : Nonempty (Cl W) := ⟨⟨W, Below.refl _ _⟩⟩

end Go.Proofs.Gv

namespace Go.Proofs.Gv
open Go Go.RowKit

/-- Sign and bytes stand for the integer z. -/
structure Rp (n : Bool) (s : ByteArray) (z : Int) : Prop where
  val : iv n s = z
  sz : s.size ≤ 1000000
theorem p256 (N : Nat) : (256 : Nat) ^ N = 2 ^ (8 * N) := by rw [Nat.pow_mul]
theorem szB {x : Nat} (N : Nat) (h : x < 2 ^ (8 * N)) : (mg x).size ≤ N := size_mg (by rw [p256]; exact h)
theorem Rp.V {z : Int} (N : Nat) (h : z.natAbs < 2 ^ N) (hN : N ≤ 7900000) : Rp (sgn z) (mg z.natAbs) z :=
  ⟨iv_V z, Nat.le_trans (szB (N / 8 + 1) (Nat.lt_of_lt_of_le h (Nat.pow_le_pow_right (by decide) (by omega)))) (by omega)⟩
theorem bv_emp : bv (⟨#[]⟩ : ByteArray).data.toList = 0 := by rw [← mg_zero, bv_mg]
theorem Rp.zero : Rp false ⟨#[]⟩ 0 := ⟨by unfold iv; rw [bv_emp]; rfl, by decide⟩
theorem Rp.abs {n : Bool} {s : ByteArray} {z : Int} (h : Rp n s z) : z.natAbs = bv s.data.toList := by rw [← h.val, iv_abs]
theorem Rp.lt {n : Bool} {s : ByteArray} {z : Int} (h : Rp n s z) {k : Nat} (hk : s.size ≤ k) : z.natAbs < 2 ^ (8 * k) := by
  rw [← h.val, ← p256]
  exact Nat.lt_of_lt_of_le (iv_lt n s) (Nat.pow_le_pow_right (by decide) hk)
theorem Rp.neg {n : Bool} {s : ByteArray} {z : Int} (h : Rp n s z) (hz : z < 0) : n = true ∧ 0 < bv s.data.toList := by
  have hv := h.val
  unfold iv at hv
  cases n
  · simp at hv; omega
  · simp at hv; exact ⟨rfl, by omega⟩
theorem Rp.pos {n : Bool} {s : ByteArray} {z : Int} (h : Rp n s z) (hz : 0 ≤ z) : n = true → bv s.data.toList = 0 := by
  have hv := h.val
  unfold iv at hv
  rintro rfl
  simp at hv; omega

section
variable {na nb : Bool} {sa sb : ByteArray} {a b : Int}
theorem cAdd (ha : Rp na sa a) (hb : Rp nb sb b) (W : World) :
    Calls Tryd.prog 60 #[.agg #[.bool na, .string sa], .agg #[.bool nb, .string sb]] W fun e w' => e = .returned (.agg #[.bool (sgn (a + b)), .string (mg (a + b).natAbs)]) ∧ Below W.heap.size W w' := by
  have := Add_any na nb sa sb W (Nat.le_trans ha.sz (by decide)) (Nat.le_trans hb.sz (by decide))
  rwa [ha.val, hb.val] at this
theorem cSub (ha : Rp na sa a) (hb : Rp nb sb b) (W : World) :
    Calls Tryd.prog 42 #[.agg #[.bool na, .string sa], .agg #[.bool nb, .string sb]] W fun e w' => e = .returned (.agg #[.bool (sgn (a - b)), .string (mg (a - b).natAbs)]) ∧ Below W.heap.size W w' := by
  have := Sub_any na nb sa sb W (Nat.le_trans ha.sz (by decide)) (Nat.le_trans hb.sz (by decide))
  rwa [ha.val, hb.val] at this
theorem cMul (ha : Rp na sa a) (hb : Rp nb sb b) (W : World) :
    Calls Tryd.prog 26 #[.agg #[.bool na, .string sa], .agg #[.bool nb, .string sb]] W fun e w' => e = .returned (.agg #[.bool (sgn (a * b)), .string (mg (a * b).natAbs)]) ∧ Below W.heap.size W w' := by
  have := Mul_any na nb sa sb W (Nat.le_trans ha.sz (by decide)) (Nat.le_trans hb.sz (by decide))
  rwa [ha.val, hb.val] at this
theorem cNeg (ha : Rp na sa a) (W : World) :
    Calls Tryd.prog 40 #[.agg #[.bool na, .string sa]] W fun e w' => e = .returned (.agg #[.bool (sgn (-a)), .string (mg (-a).natAbs)]) ∧ Below W.heap.size W w' := by
  have := Neg_any na sa W (Nat.le_trans ha.sz (by decide))
  rwa [ha.val] at this
theorem cCmp (ha : Rp na sa a) (hb : Rp nb sb b) (W : World) :
    Calls Tryd.prog 23 #[.agg #[.bool na, .string sa], .agg #[.bool nb, .string sb]] W fun e w' => e = .returned (.int .i64 (cmpI a b)) ∧ Below W.heap.size W w' := by
  have := Compare_any na nb sa sb W (Nat.le_trans ha.sz (by decide)) (Nat.le_trans hb.sz (by decide))
  rwa [ha.val, hb.val] at this
theorem cDiv {q r : Int} (ha : Rp na sa a) (hb : Rp nb sb b) (hd : DivSpec a b q r) (h0 : b ≠ 0) (W : World) :
    Calls Tryd.prog 48 #[.agg #[.bool na, .string sa], .agg #[.bool nb, .string sb]] W fun e w' => e = .returned (.tuple #[.agg #[.bool (sgn q), .string (mg q.natAbs)], .agg #[.bool (sgn r), .string (mg r.natAbs)], .int .i64 0]) ∧ Below W.heap.size W w' := by
  have := Div_any na nb sa sb W (Nat.le_trans ha.sz (by decide)) (Nat.le_trans hb.sz (by decide)) (by rw [← hb.abs]; omega)
  rw [ha.val, hb.val] at this
  refine this.mono ?_
  rintro e w' ⟨q', r', rfl, hd', hbl⟩
  obtain ⟨rfl, rfl⟩ := div_uniq hd hd'
  exact ⟨rfl, hbl⟩
end
theorem add_bits {x y N : Nat} (h : x < 2 ^ N) (h' : y < 2 ^ N) : x + y < 2 ^ (N + 1) := by rw [Nat.pow_succ]; omega
theorem isub_bits {x y : Int} {N : Nat} (h : x.natAbs < 2 ^ N) (h' : y.natAbs < 2 ^ N) : (x - y).natAbs < 2 ^ (N + 1) := by have := add_bits h h'; omega
end Go.Proofs.Gv

namespace Go.Proofs.Gv
open Go Go.RowKit
/-- Four cells stand for the number q. -/
structure Rq (n : Bool) (s : ByteArray) (m : Bool) (t : ByteArray) (q : Rat) : Prop where
  val : Rat.divInt (iv n s) (iv m t) = q
  s1 : s.size ≤ 20000
  s2 : t.size ≤ 20000
theorem Rq.up {n m : Bool} {s t : ByteArray} {q : Rat} (h : Rq n s m t q) : Rp n s (iv n s) := ⟨rfl, Nat.le_trans h.s1 (by decide)⟩
theorem Rq.lo {n m : Bool} {s t : ByteArray} {q : Rat} (h : Rq n s m t q) : Rp m t (iv m t) := ⟨rfl, Nat.le_trans h.s2 (by decide)⟩
theorem iv_mgN (d : Nat) : iv false (mg d) = (d : Int) := by unfold iv; simp [bv_mg]
theorem mgB {x N : Nat} (h : x < 2 ^ N) (hN : N ≤ 159000) : (mg x).size ≤ 20000 :=
  Nat.le_trans (szB ((N + 7) / 8) (Nat.lt_of_lt_of_le h (Nat.pow_le_pow_right (by decide) (by omega)))) (by omega)
/-- The cells of a result stand for it. -/
theorem Rq.V {q : Rat} {N : Nat} (h : Qb N q) (hN : N ≤ 159000) : Rq (sgn q.num) (mg q.num.natAbs) false (mg q.den) q :=
  ⟨by rw [iv_V, iv_mgN, low_self], mgB h.up hN, mgB h.lo hN⟩
theorem rp_num {q : Rat} {N : Nat} (h : Qb N q) (hN : N ≤ 7000000) : Rp (sgn q.num) (mg q.num.natAbs) q.num := Rp.V N h.up (by omega)
theorem rp_den {q : Rat} {N : Nat} (h : Qb N q) (hN : N ≤ 7000000) : Rp false (mg q.den) q.den :=
  ⟨iv_mgN _, Nat.le_trans (szB (N / 8 + 1) (Nat.lt_of_lt_of_le h.lo (Nat.pow_le_pow_right (by decide) (by omega)))) (by omega)⟩
theorem Rq.qb {n m : Bool} {s t : ByteArray} {q : Rat} {k : Nat} (h : Rq n s m t q) (h1 : s.size ≤ k) (h2 : t.size ≤ k) (hk : 1 ≤ k) : Qb (8 * k) q := by
  rw [← h.val]
  exact Qb.div (h.up.lt h1) (h.lo.lt h2) (by omega)
end Go.Proofs.Gv

namespace Go.Proofs.Gv
theorem rat_aw1 : simQ (Rat.divInt 1 3) (Rat.divInt 2 5) = Rat.divInt 1 3 := by decide +kernel
theorem rat_aw2 : simQ (Rat.divInt 3 10) (Rat.divInt 2 5) = Rat.divInt 1 3 := by decide +kernel
theorem rat_aw3 : simQ (Rat.divInt (-1) 2) (Rat.divInt 5 1) = 0 := by decide +kernel
theorem rat_aw4 : Rat.divInt 6 (-4) = Rat.divInt (-3) 2 := by decide +kernel
theorem rat_aw5 : (Rat.divInt (-3) 2).floor = -2 := by decide +kernel
/-- the terms of the continued fraction of the simplest number -/
def cfF : Nat → Rat → Rat → List Int
  | 0, a, _ => [a.floor]
  | k + 1, a, b =>
    if (a.floor : Rat) = a then [a.floor]
    else if ((a.floor + 1 : Int) : Rat) ≤ b then [a.floor + 1]
    else a.floor :: cfF k (b - a.floor)⁻¹ (a - a.floor)⁻¹
/-- the value of a continued fraction -/
def cfV : List Int → Rat
  | [] => 0
  | [x] => (x : Rat)
  | x :: y :: l => (x : Rat) + (cfV (y :: l))⁻¹
theorem cfF_ne (k : Nat) (a b : Rat) : ∃ x l, cfF k a b = x :: l := by
  cases k with
  | zero => exact ⟨_, _, rfl⟩
  | succ k =>
    unfold cfF
    split
    · exact ⟨_, _, rfl⟩
    · split <;> exact ⟨_, _, rfl⟩
theorem cfF_val : ∀ (k : Nat) (a b : Rat), 0 < a → a ≤ b → a.den + b.den ≤ k → cfV (cfF k a b) = simF k a b := by
  intro k
  induction k with
  | zero => intro a b _ _ h; have := a.den_pos; omega
  | succ k ih =>
    intro a b h0 hab hk
    unfold cfF simF
    by_cases h1 : (a.floor : Rat) = a
    · rw [if_pos h1, if_pos h1]; exact h1
    · rw [if_neg h1, if_neg h1]
      by_cases h2 : ((a.floor + 1 : Int) : Rat) ≤ b
      · rw [if_pos h2, if_pos h2]; rfl
      · rw [if_neg h2, if_neg h2]
        obtain ⟨_, _, _, p1, p2, d1, d2⟩ := sim_step h0 hab h1 h2
        obtain ⟨x, l, hl⟩ := cfF_ne k (b - a.floor)⁻¹ (a - a.floor)⁻¹
        have := ih _ _ p1 p2 (by omega)
        rw [hl] at this ⊢
        show (a.floor : Rat) + (cfV (x :: l))⁻¹ = _
        rw [this]
/-- the bounds of the next step are no longer -/
theorem Qb.step {N : Nat} {a b : Rat} (ha : Qb N a) (hb : Qb N b) (h0 : 0 < a) (hab : a ≤ b) (h1 : (a.floor : Rat) ≠ a) (h2 : ¬ ((a.floor + 1 : Int) : Rat) ≤ b) :
    Qb N (b - a.floor)⁻¹ ∧ Qb N (a - a.floor)⁻¹ := by
  obtain ⟨_, f1, f2, p1, p2, d1, d2⟩ := sim_step h0 hab h1 h2
  have key : ∀ x : Rat, 0 < x - a.floor → ((x - a.floor)⁻¹).den < x.den → Qb N x → Qb N (x - a.floor)⁻¹ := by
    intro x hx hd hq
    have hn := (q_inv_num hx).1
    have h3 : x - a.floor = ((-a.floor : Int) : Rat) + x := by rw [Rat.intCast_neg]; grind
    have h4 := (q_addInt_num x (-a.floor)).2
    have := hq.lo
    refine ⟨?_, by omega⟩
    rw [hn, h3, h4, Int.natAbs_natCast]
    exact this
  exact ⟨key b (by grind) d1 hb, key a (by grind) d2 ha⟩
theorem Qb.simF {N k : Nat} {a b : Rat} (hb : Qb N b) (h0 : 0 < a) (hab : a ≤ b) (hk : a.den + b.den ≤ k) : Qb N (simF k a b) := by
  obtain ⟨i1, i2, i3, -⟩ := sim_spec k a b h0 hab hk
  have h := i3 b hab Rat.le_refl
  have hu := hb.up
  have hl := hb.lo
  have hp : 0 < (Gv.simF k a b).num := by
    have : 0 < Gv.simF k a b := by grind
    simpa [Rat.lt_iff] using this
  exact ⟨by omega, by omega⟩
/-- what the terms from any one on are worth, is no longer than the bounds -/
theorem cfF_qb {N : Nat} : ∀ (k : Nat) (a b : Rat), 0 < a → a ≤ b → a.den + b.den ≤ k → Qb N a → Qb N b → ∀ i, i < (cfF k a b).length → Qb N (cfV ((cfF k a b).drop i)) ∧ 0 < cfV ((cfF k a b).drop i) := by
  intro k
  induction k with
  | zero => intro a b _ _ h; have := a.den_pos; omega
  | succ k ih =>
    intro a b h0 hab hk ha hb i hi
    cases i with
    | zero =>
      rw [List.drop_zero, cfF_val (k + 1) a b h0 hab hk]
      refine ⟨Qb.simF hb h0 hab hk, ?_⟩
      have := (sim_spec (k + 1) a b h0 hab hk).1
      grind
    | succ i =>
      by_cases h1 : (a.floor : Rat) = a
      · unfold cfF at hi; rw [if_pos h1] at hi; simp at hi
      · by_cases h2 : ((a.floor + 1 : Int) : Rat) ≤ b
        · unfold cfF at hi; rw [if_neg h1, if_pos h2] at hi; simp at hi
        · obtain ⟨_, _, _, p1, p2, d1, d2⟩ := sim_step h0 hab h1 h2
          obtain ⟨q1, q2⟩ := Qb.step ha hb h0 hab h1 h2
          unfold cfF at hi ⊢
          rw [if_neg h1, if_neg h2] at hi ⊢
          exact ih _ _ p1 p2 (by omega) q1 q2 i (by simpa using hi)
theorem cfV_drop : ∀ (l : List Int) (i : Nat) (h : i + 1 < l.length), cfV (l.drop i) = ((l[i]'(by omega) : Int) : Rat) + (cfV (l.drop (i + 1)))⁻¹
  | [], i, h => by simp at h
  | [x], i, h => by simp at h
  | x :: y :: l, 0, _ => rfl
  | x :: y :: l, i + 1, h => by
    have := cfV_drop (y :: l) i (by simpa using h)
    simpa using this
theorem cfV_last : ∀ (l : List Int) (i : Nat) (h : i + 1 = l.length), cfV (l.drop i) = ((l[i]'(by omega) : Int) : Rat)
  | [], i, h => by simp at h
  | [x], 0, _ => rfl
  | [x], i + 1, h => by simp at h
  | x :: y :: l, 0, h => by simp at h
  | x :: y :: l, i + 1, h => by
    have := cfV_last (y :: l) i (by simpa using h)
    simpa using this
theorem cfF_term {N : Nat} : ∀ (k : Nat) (a b : Rat), 0 < a → a ≤ b → a.den + b.den ≤ k → Qb N a → Qb N b → ∀ x ∈ cfF k a b, 0 ≤ x ∧ x.natAbs < 2 ^ N := by
  intro k
  induction k with
  | zero => intro a b _ _ h; have := a.den_pos; omega
  | succ k ih =>
    intro a b h0 hab hk ha hb x hx
    have hf0 : 0 ≤ a.floor := by rw [Rat.le_floor_iff, Rat.intCast_zero]; exact Rat.le_of_lt h0
    have hfa := ha.floor
    have hfb := hb.floor
    unfold cfF at hx
    by_cases h1 : (a.floor : Rat) = a
    · rw [if_pos h1] at hx
      obtain rfl := List.mem_singleton.1 hx
      exact ⟨hf0, hfa⟩
    · rw [if_neg h1] at hx
      by_cases h2 : ((a.floor + 1 : Int) : Rat) ≤ b
      · rw [if_pos h2] at hx
        obtain rfl := List.mem_singleton.1 hx
        have h3 : a.floor + 1 ≤ b.floor := Rat.le_floor_iff.2 h2
        omega
      · rw [if_neg h2] at hx
        rcases List.mem_cons.1 hx with rfl | hx
        · exact ⟨hf0, hfa⟩
        · obtain ⟨_, _, _, p1, p2, d1, d2⟩ := sim_step h0 hab h1 h2
          obtain ⟨q1, q2⟩ := Qb.step ha hb h0 hab h1 h2
          exact ih _ _ p1 p2 (by omega) q1 q2 x hx
theorem q_one_div (x : Rat) : (1 : Rat) / x = x⁻¹ := by rw [Rat.div_def, Rat.one_mul]
end Go.Proofs.Gv
