/- What the walks of the laws on integers share. -/
import Derived.Test.YtlbgkhjelbadmaaAwake01P
import Derived.Deep.DeepCutAuto
import Derived.BigQuiet
import Derived.Deep.QuietTactic
import Derived.Test.YtlbgkhjelbadmaaRootIP
import Derived.Test.YtlbgkhjelbadmaaIntNegP
import Derived.Deep.RegionHeld3
import Derived.Deep.LoopGhost
import Derived.OpenShut
set_option linter.unusedSimpArgs false
set_option linter.unusedVariables false
namespace Go.Proofs.Gv
open Go Go.RowKit

/-- The box b holds the integer (n, s). -/
structure Bx (W : World) (b : Nat) (n : Bool) (s : ByteArray) : Prop where
  c0 : W.cell? ⟨b, 0, none⟩ = some (.bool n)
  c1 : W.cell? ⟨b, 1, none⟩ = some (.string s)
  z0 : W.frozen? ⟨b, 0, none⟩ = false
  z1 : W.frozen? ⟨b, 1, none⟩ = false
  lt : b < W.heap.size
theorem Bx.below {W W1 W' : World} {b : Nat} {n : Bool} {s : ByteArray} (h : Bx W b n s) (hb : Below W1.heap.size W1 W') (e : W1.heap = W.heap := by rfl) : Bx W' b n s := by
  have hlt : b < W1.heap.size := by rw [e]; exact h.lt
  have hc : ∀ o, W1.cell? ⟨b, o, none⟩ = W.cell? ⟨b, o, none⟩ := fun o => World.cell?_of_block (by rw [e])
  have hf : ∀ o, W1.frozen? ⟨b, o, none⟩ = W.frozen? ⟨b, o, none⟩ := fun o => by unfold World.frozen?; rw [e]
  exact ⟨(hb.cell (p := ⟨b, 0, none⟩) hlt).trans ((hc 0).trans h.c0), (hb.cell (p := ⟨b, 1, none⟩) hlt).trans ((hc 1).trans h.c1),
    (hb.frozen (p := ⟨b, 0, none⟩) hlt).trans ((hf 0).trans h.z0), (hb.frozen (p := ⟨b, 1, none⟩) hlt).trans ((hf 1).trans h.z1), Nat.lt_of_lt_of_le hlt hb.size⟩
theorem Bx.alloc {W : World} {b : Nat} {n : Bool} {s : ByteArray} (h : Bx W b n s) (o : Obj) : Bx (W.alloc o) b n s := by
  have hb := (Below.refl W.heap.size W).alloc (Nat.le_refl _) o
  exact h.below hb
theorem Bx.new (W : World) (b : Nat) (n : Bool) (s : ByteArray) (hb : b = W.heap.size) : Bx (W.alloc (.cells #[.bool n, .string s] 37)) b n s := by
  subst hb
  obtain ⟨a, b, c, d, e⟩ := blk_facts (heap_alloc_new W (.cells #[.bool n, .string s] 37))
  exact ⟨a, b, c, d, e⟩
theorem Bx.set {W : World} {b : Nat} {n n' : Bool} {s s' : ByteArray} (h : Bx W b n s) : Bx ((W.setCell ⟨b, 0, none⟩ (.bool n')).setCell ⟨b, 1, none⟩ (.string s')) b n' s' := by
  have e1 : (W.setCell ⟨b, 0, none⟩ (.bool n')).cell? ⟨b, 1, none⟩ = some (.string s) := (World.cell?_setCell_other _ _ _ _ (fun e => by have := congrArg Addr.off e; simp at this)).trans h.c1
  refine ⟨?_, World.cell?_setCell_same _ _ _ e1, ?_, ?_, by simpa using h.lt⟩
  · exact (World.cell?_setCell_other _ _ _ _ (fun e => by have := congrArg Addr.off e; simp at this)).trans (World.cell?_setCell_same _ _ _ h.c0)
  · rw [World.frozen?_setCell, World.frozen?_setCell]; exact h.z0
  · rw [World.frozen?_setCell, World.frozen?_setCell]; exact h.z1
theorem Bx.other {W : World} {b c : Nat} {n : Bool} {s : ByteArray} {u v : Value} (h : Bx W b n s) (hne : b ≠ c) : Bx ((W.setCell ⟨c, 0, none⟩ u).setCell ⟨c, 1, none⟩ v) b n s := by
  have e : ∀ (X : World) (o p : Nat) (y : Value), (X.setCell ⟨c, p, none⟩ y).cell? ⟨b, o, none⟩ = X.cell? ⟨b, o, none⟩ := fun X o p y => World.cell?_setCell_other _ _ _ _ (fun e => hne (congrArg Addr.block e).symm)
  refine ⟨(e _ _ _ _).trans ((e _ _ _ _).trans h.c0), (e _ _ _ _).trans ((e _ _ _ _).trans h.c1), ?_, ?_, by simpa using h.lt⟩
  · rw [World.frozen?_setCell, World.frozen?_setCell]; exact h.z0
  · rw [World.frozen?_setCell, World.frozen?_setCell]; exact h.z1
/-- Boxes of integers, by their cells. -/
def Bxs (L : List (Nat × Bool × ByteArray)) (W : World) : Prop := ∀ x ∈ L, Bx W x.1 x.2.1 x.2.2
theorem Bxs.nil (W : World) : Bxs [] W := fun x h => by cases h
theorem Bxs.cons {L : List (Nat × Bool × ByteArray)} {W : World} {b : Nat} {n : Bool} {s : ByteArray} (h : Bxs L W) (hb : Bx W b n s) : Bxs ((b, n, s) :: L) W := fun x hx => by
  rcases List.mem_cons.1 hx with rfl | hx
  · exact hb
  · exact h x hx
theorem Bxs.below {L : List (Nat × Bool × ByteArray)} {W W1 W' : World} (h : Bxs L W) (hb : Below W1.heap.size W1 W') (e : W1.heap = W.heap := by rfl) : Bxs L W' := fun x hx => (h x hx).below hb e
/-- A world that lies behind W, with what was there as it was. -/
structure Cl (W : World) where
  x : World
  h : Below W.heap.size W x
/-- A region that draws its order, reads, and calls what makes memory alone: walked once, in the order of the text. -/
theorem wp_region_cls {id : Nat} {Q : Exit → Act → World → Prop} {a : Act} {W : World} {l : List Oper} (hB : Region.lexB .any l.toArray = true)
    (h : wpQuiet Try.prog l.toArray (fun w' => ∃ u : Cl W, w' = u.x) (fun a' => ∀ w', (∃ u : Cl W, w' = u.x) → Q .normal a' w') l a) : (Code.region id l.toArray true).wp Try.prog Q a W :=
  wp_region_quiet (C := fun w' => ∃ u : Cl W, w' = u.x) (by kernel_rfl) hB ⟨⟨{ W with drawn := W.drawn + 1 }, ⟨rfl, rfl, rfl, Nat.le_refl _, fun _ _ => rfl⟩⟩, rfl⟩ (by simpa using h)
theorem quiet_cls {W : World} {f : Nat} {args : Array Value} {v : Value} (h : ∀ X, Calls Try.prog f args X fun e w' => e = .returned v ∧ Below X.heap.size X w') (u : Cl W) :
    Calls Try.prog f args u.x fun e w'' => e = .returned v ∧ ∃ u' : Cl W, w'' = u'.x :=
  (h u.x).mono fun _ w' ⟨he, hb⟩ => ⟨he, ⟨⟨w', bstep u.h hb⟩, rfl⟩⟩
theorem cls_some (W : World) : Nonempty (Cl W) := ⟨⟨W, Below.refl _ _⟩⟩

theorem cells_get {w : World} {B t i : Nat} {vs : Array Value} (h : w.heap[B]? = some (.cells vs t (0, 0))) : w.cell? ⟨B, i, none⟩ = vs[i]? := by
  simp only [World.cell?, h]; rfl

end Go.Proofs.Gv

namespace Go.Proofs.Gv
open Go Go.RowKit

/-- Sign and bytes are those of a canonical integer. -/
def Canon (na : Bool) (sa : ByteArray) : Prop := sg na (bv sa.data.toList) = na ∧ mg (bv sa.data.toList) = sa

set_option maxHeartbeats 800000 in
theorem Check_any (na : Bool) (sa : ByteArray) (w : World) (ha : sa.size ≤ 30000000) :
    Calls Try.prog 76 #[.agg #[.bool na, .string sa]] w fun e w' => (∃ r : Int, e = .returned (.int .i64 r) ∧ (Canon na sa → r = 0) ∧ (¬ Canon na sa → r = 1)) ∧ Below w.heap.size w w' := by
  have L1 := nlen_bv (s := sa)
  go_enter Try.func76, Try.ntmps76
  go_wp2
  obtain ⟨W, hW⟩ : ∃ W, w.alloc (.cells #[.bool na, .string sa] 37) = W := ⟨_, rfl⟩
  have HO := Lib.hid (Own.one w (.cells #[.bool na, .string sa] 37))
  rw [hW] at HO ⊢
  clear hW
  obtain ⟨a0, a1, a2, a3, a4⟩ := HO.out.blk 0 w.heap.size rfl rfl
  go_region_held3 (fun w' => w'.cell? ⟨w.heap.size, 0, none⟩ = some (.bool na) ∧ w'.cell? ⟨w.heap.size, 1, none⟩ = some (.string sa)) (go_keep) (first
    | (go_at_call 55; refine (digits_any na sa _ (by omega)).mono ?_; rintro e w1 ⟨A, c, rfl, hn, hb⟩; have HO1 := Lib.hid (HO.out.next hb); obtain ⟨k0, k1, k2, k3, k4⟩ := HO1.out.blk 0 w.heap.size rfl rfl; have Hn := Lib.hid hn; clear hb hn)
    | (go_at_call 56; refine (number_nt _ A c _ _ (by exact Hn.out.same) (by have := nlen_bv (s := sa); omega)).mono ?_; rintro e w2 ⟨rfl, hb2⟩; have HO2 := Lib.hid (HO1.out.next hb2); obtain ⟨m0, m1, m2, m3, m4⟩ := HO2.out.blk 0 w.heap.size rfl rfl; clear hb2))
  by_cases hc : Canon na sa
  · rw [eqI_iff.mpr hc]
    go_wp2
    refine bodyPost_ret (v := .int .i64 0) (by simp [results, Try.results76, go_sem]) rfl ?_
    exact ⟨⟨0, rfl, fun _ => rfl, fun h => absurd hc h⟩, HO2.out.below⟩
  · have t : eqI (sg na (bv sa.data.toList)) (mg (bv sa.data.toList)) na sa = false := by
      rw [Bool.eq_false_iff]; exact fun h => hc (eqI_iff.mp h)
    rw [t]
    go_wp2
    refine bodyPost_ret (v := .int .i64 1) (by simp [results, Try.results76, go_sem]) rfl ?_
    exact ⟨⟨1, rfl, fun h => absurd h hc, fun _ => rfl⟩, HO2.out.below⟩
end Go.Proofs.Gv

namespace Go.Proofs.Gv
open Go Go.RowKit

/-- Sign and bytes stand for the integer z. -/
structure Rp (n : Bool) (s : ByteArray) (z : Int) : Prop where
  val : iv n s = z
  sz : s.size ≤ 1000000
theorem p256 (N : Nat) : (256 : Nat) ^ N = 2 ^ (8 * N) := by rw [Nat.pow_mul]
theorem szB {x : Nat} (N : Nat) (h : x < 2 ^ (8 * N)) : (mg x).size ≤ N := size_mg (by rw [p256]; exact h)
theorem Rp.V {z : Int} (N : Nat) (h : z.natAbs < 2 ^ N) (hN : N ≤ 7900000) : Rp (sgn z) (mg z.natAbs) z :=
  ⟨iv_V z, Nat.le_trans (szB (N / 8 + 1) (Nat.lt_of_lt_of_le h (Nat.pow_le_pow_right (by decide) (by omega)))) (by omega)⟩
theorem bv_emp : bv (⟨#[]⟩ : ByteArray).data.toList = 0 := by rw [← mg_zero, bv_mg]
theorem Rp.zero : Rp false ⟨#[]⟩ 0 := ⟨by unfold iv; rw [bv_emp]; rfl, by decide⟩
theorem Rp.lt {n : Bool} {s : ByteArray} {z : Int} (h : Rp n s z) {k : Nat} (hk : s.size ≤ k) : z.natAbs < 2 ^ (8 * k) := by
  rw [← h.val, ← p256]
  exact Nat.lt_of_lt_of_le (iv_lt n s) (Nat.pow_le_pow_right (by decide) hk)
theorem Rp.neg {n : Bool} {s : ByteArray} {z : Int} (h : Rp n s z) (hz : z < 0) : n = true ∧ 0 < bv s.data.toList := by
  have hv := h.val
  unfold iv at hv
  cases n
  · simp at hv; omega
  · simp at hv; exact ⟨rfl, by omega⟩
theorem Rp.pos {n : Bool} {s : ByteArray} {z : Int} (h : Rp n s z) (hz : 0 ≤ z) : n = true → bv s.data.toList = 0 := by
  have hv := h.val
  unfold iv at hv
  rintro rfl
  simp at hv; omega

section
variable {na nb : Bool} {sa sb : ByteArray} {a b : Int}
theorem cAdd (ha : Rp na sa a) (hb : Rp nb sb b) (W : World) :
    Calls Try.prog 25 #[.agg #[.bool na, .string sa], .agg #[.bool nb, .string sb]] W fun e w' => e = .returned (.agg #[.bool (sgn (a + b)), .string (mg (a + b).natAbs)]) ∧ Below W.heap.size W w' := by
  have := Add_any na nb sa sb W (Nat.le_trans ha.sz (by decide)) (Nat.le_trans hb.sz (by decide))
  rwa [ha.val, hb.val] at this
theorem cMul (ha : Rp na sa a) (hb : Rp nb sb b) (W : World) :
    Calls Try.prog 50 #[.agg #[.bool na, .string sa], .agg #[.bool nb, .string sb]] W fun e w' => e = .returned (.agg #[.bool (sgn (a * b)), .string (mg (a * b).natAbs)]) ∧ Below W.heap.size W w' := by
  have := Mul_any na nb sa sb W (Nat.le_trans ha.sz (by decide)) (Nat.le_trans hb.sz (by decide))
  rwa [ha.val, hb.val] at this
theorem cCmp (ha : Rp na sa a) (hb : Rp nb sb b) (W : World) :
    Calls Try.prog 20 #[.agg #[.bool na, .string sa], .agg #[.bool nb, .string sb]] W fun e w' => e = .returned (.int .i64 (cmpI a b)) ∧ Below W.heap.size W w' := by
  have := Compare_any na nb sa sb W (Nat.le_trans ha.sz (by decide)) (Nat.le_trans hb.sz (by decide))
  rwa [ha.val, hb.val] at this
theorem canon_V (z : Int) : Canon (sgn z) (mg z.natAbs) := by
  unfold Canon
  rw [bv_mg, sg_eq]
  refine ⟨?_, rfl⟩
  congr 1
  unfold sgn
  by_cases h : z < 0
  · simp [h]; omega
  · simp [h]; omega
end
end Go.Proofs.Gv

namespace Go.Proofs.Gv
open Go Go.RowKit

theorem cOf (z : Int) (h1 : -9223372036854775808 ≤ z) (h2 : z < 9223372036854775808) (W : World) : Calls Try.prog 26 #[.int .i64 z] W fun e w' => e = .returned (.agg #[.bool (sgn z), .string (mg z.natAbs)]) ∧ Below W.heap.size W w' := Of_any z W h1 h2
end Go.Proofs.Gv
