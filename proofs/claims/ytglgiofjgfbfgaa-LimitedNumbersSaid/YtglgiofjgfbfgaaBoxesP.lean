/- Rows of bytes: []byte(s), string(b), stores into them. -/
import Derived.Test.YtglgiofjgfbfgaaTrimP
import Derived.Test.YtglgiofjgfbfgaaProg
import Derived.Laws.IdiomStrings
import Derived.Laws.BytesArg
import Derived.Sort.Row
import Derived.Test.YtglgiofjgfbfgaaShelf
import Derived.Shelf.Small.Bits
import Derived.Lib.Builder
import Derived.Shelf.Strings.Builder1
import Derived.Test.YtglgiofjgfbfgaaMulP
import Derived.RegionTactic
import Derived.Test.YtglgiofjgfbfgaaAddP
import Derived.Test.YtglgiofjgfbfgaaRootIP
import Derived.Deep.RegionHeld3
import Derived.Deep.DeepCutAuto
import Derived.BigQuiet
import Derived.Deep.QuietTactic
import Derived.Deep.LoopGhost
import Derived.OpenShut
set_option linter.unusedSimpArgs false
set_option linter.unusedVariables false
namespace Go.Proofs.Gv
open Go Go.RowKit

/-- Block g holds the bytes f 0 .. f (n - 1), and none of them is frozen. -/
structure BRow (W : World) (g n : Nat) (f : Nat → UInt8) : Prop where
  lt : g < W.heap.size
  cell : ∀ j, j < n → W.cell? ⟨g, j, none⟩ = some (.int .u8 (f j).toNat)
  fz : ∀ j, j < n → W.frozen? ⟨g, j, none⟩ = false

theorem BRow.congr {W : World} {g n : Nat} {f h : Nat → UInt8} (H : BRow W g n f) (e : ∀ j, j < n → f j = h j) : BRow W g n h :=
  ⟨H.lt, fun j hj => by rw [H.cell j hj, e j hj], H.fz⟩
theorem BRow.same {W W' : World} {g n : Nat} {f : Nat → UInt8} (H : BRow W g n f) (e : W'.heap = W.heap := by rfl) : BRow W' g n f :=
  ⟨by rw [e]; exact H.lt, fun j hj => by rw [World.cell?_of_block (w := W) (by rw [e])]; exact H.cell j hj, fun j hj => by
    have := H.fz j hj
    unfold World.frozen? at this ⊢
    rw [e]; exact this⟩
theorem BRow.below {W W' : World} {B g n : Nat} {f : Nat → UInt8} (H : BRow W g n f) (hb : Below B W W') (hg : g < B) : BRow W' g n f :=
  ⟨Nat.lt_of_lt_of_le H.lt hb.size, fun j hj => (hb.cell (p := ⟨g, j, none⟩) hg).trans (H.cell j hj), fun j hj => (hb.frozen (p := ⟨g, j, none⟩) hg).trans (H.fz j hj)⟩
theorem BRow.set {W : World} {g n : Nat} {f : Nat → UInt8} (H : BRow W g n f) (k : Nat) (hk : k < n) (c : UInt8) : BRow (W.setCell ⟨g, k, none⟩ (.int .u8 c.toNat)) g n (fun j => if j = k then c else f j) := by
  refine ⟨by simpa using H.lt, fun j hj => ?_, fun j hj => by rw [World.frozen?_setCell]; exact H.fz j hj⟩
  by_cases e : j = k
  · subst e
    rw [if_pos rfl, World.cell?_setCell_same _ _ _ (H.cell j hj)]
  · rw [if_neg e]
    exact (World.cell?_setCell_other W _ _ _ (fun h => e (by have := congrArg Addr.off h; simpa using this.symm))).trans (H.cell j hj)
end Go.Proofs.Gv

namespace Go.Proofs.Gv
open Go Go.RowKit

/-- Texts as values. -/
def strV (P : List (List UInt8)) : List Value := P.map fun l => .string ⟨l.toArray⟩
/-- A natural in memory stays where a row of texts grows. -/
theorem Nt.grown {W w1 : World} {B : Nat} {A : Option Addr} {c x : Nat} {v : Value} {n : Nat} {P : List (List UInt8)} {tmp : Obj} (h : Nt W W.heap.size A c x) (ho : W.ownsRow B 9 1 v n (strV P)) (hn0 : P = [] → v = .slice none 0 0) (hg : (W.alloc tmp).grownBy w1 v.ownBlock) : Nt w1 w1.heap.size A c x := by
  refine ⟨h.le, h.bd, fun hn => ?_⟩
  obtain ⟨g, e, hgl, hc⟩ := h.rd hn
  have hne : some g ≠ v.ownBlock := by
    intro e2
    rcases ho.2 with ⟨rfl, _⟩ | ⟨g', cap, cur, rfl, _, hg', _, _, _, ht⟩
    · cases e2
    · have : g = g' := by injection e2
      subst this
      have hP : P ≠ [] := fun hP => by have := hn0 hP; cases this
      obtain ⟨a, P', rfl⟩ : ∃ a P', P = a :: P' := by
        cases P with
        | nil => exact absurd rfl hP
        | cons a P' => exact ⟨a, P', rfl⟩
      have h1 := hc 0 hn
      have h2 : (cur.toList.take (n * 1))[0]? = some (.string ⟨a.toArray⟩) := by rw [ht]; rfl
      have h3 : cur[0]? = some (.string ⟨a.toArray⟩) := by
        rw [List.getElem?_take] at h2
        split at h2
        · simpa using h2
        · cases h2
      have h4 : W.cell? ⟨g, 0, none⟩ = some (.string ⟨a.toArray⟩) := by simp [World.cell?, hg', h3]
      rw [h1] at h4
      cases h4
  have hsz : W.heap.size + 1 ≤ w1.heap.size := by have := hg.size; simpa using this
  refine ⟨g, e, by omega, fun j hj => ?_⟩
  have hb : w1.heap[g]? = W.heap[g]? := by
    rw [hg.block g (by simp; omega) hne]
    exact Below.heap_alloc W tmp g hgl
  rw [World.cell?_of_block (w := W) (by exact hb)]
  exact hc j hj

end Go.Proofs.Gv

namespace Go.Proofs.Gv
open Go Go.RowKit

theorem vsize {z : Int} (h : z.natAbs < 256 ^ 60) : (mg z.natAbs).size ≤ 60 := size_mg h
theorem vs {z : Int} (h : z.natAbs < 256 ^ 60) : (mg z.natAbs).size ≤ 1000000 := Nat.le_trans (vsize h) (by decide)
/-- Boxes of integers. -/
def Boxes (L : List (Nat × Bool × ByteArray)) (W : World) : Prop := ∀ x ∈ L, W.heap[x.1]? = some (.cells #[.bool x.2.1, .string x.2.2] 29 (0, 0))
theorem Boxes.nil (W : World) : Boxes [] W := fun x h => by cases h
theorem Boxes.below {L : List (Nat × Bool × ByteArray)} {W W1 W' : World} (h : Boxes L W) (hb : Below W1.heap.size W1 W') (e : W1.heap = W.heap := by rfl) : Boxes L W' := fun x hx => by
  have h1 := h x hx
  rw [hb.block _ (by rw [e]; exact (Array.getElem?_eq_some_iff.1 h1).1), e]
  exact h1
theorem Boxes.push {L : List (Nat × Bool × ByteArray)} {W : World} (h : Boxes L W) (n : Bool) (s : ByteArray) : Boxes ((W.heap.size, n, s) :: L) (W.alloc (.cells #[.bool n, .string s] 29)) := fun x hx => by
  rcases List.mem_cons.1 hx with rfl | hx
  · exact heap_alloc_new W _
  · have h1 := h x hx
    rw [Below.heap_alloc W _ _ (Array.getElem?_eq_some_iff.1 h1).1]
    exact h1
end Go.Proofs.Gv

namespace Go.Proofs.Gv
open Go Go.RowKit

/-- One call more that makes memory alone. -/
theorem bstep {w W W1 W' : World} (h : Below w.heap.size w W) (hb : Below W1.heap.size W1 W') (e1 : W1.heap = W.heap := by rfl) (e2 : W1.os = W.os := by rfl) (e3 : W1.tape = W.tape := by rfl) (e4 : W1.output = W.output := by rfl) : Below w.heap.size w W' := by
  have hb' : Below W.heap.size W W' := ⟨hb.os.trans e2, hb.tape.trans e3, hb.output.trans e4, by rw [← e1]; exact hb.size, fun k hk => by rw [← e1]; exact hb.block k (by rw [e1]; exact hk)⟩
  exact h.trans (hb'.mono h.size)

end Go.Proofs.Gv

namespace Go.Proofs.Gv
open Go Go.RowKit

/-- The box b holds the integer (n, s). -/
structure Bx (W : World) (b : Nat) (n : Bool) (s : ByteArray) : Prop where
  c0 : W.cell? ⟨b, 0, none⟩ = some (.bool n)
  c1 : W.cell? ⟨b, 1, none⟩ = some (.string s)
  z0 : W.frozen? ⟨b, 0, none⟩ = false
  z1 : W.frozen? ⟨b, 1, none⟩ = false
  lt : b < W.heap.size
theorem Bx.below {W W1 W' : World} {b : Nat} {n : Bool} {s : ByteArray} (h : Bx W b n s) (hb : Below W1.heap.size W1 W') (e : W1.heap = W.heap := by rfl) : Bx W' b n s := by
  have hlt : b < W1.heap.size := by rw [e]; exact h.lt
  have hc : ∀ o, W1.cell? ⟨b, o, none⟩ = W.cell? ⟨b, o, none⟩ := fun o => World.cell?_of_block (by rw [e])
  have hf : ∀ o, W1.frozen? ⟨b, o, none⟩ = W.frozen? ⟨b, o, none⟩ := fun o => by unfold World.frozen?; rw [e]
  exact ⟨(hb.cell (p := ⟨b, 0, none⟩) hlt).trans ((hc 0).trans h.c0), (hb.cell (p := ⟨b, 1, none⟩) hlt).trans ((hc 1).trans h.c1),
    (hb.frozen (p := ⟨b, 0, none⟩) hlt).trans ((hf 0).trans h.z0), (hb.frozen (p := ⟨b, 1, none⟩) hlt).trans ((hf 1).trans h.z1), Nat.lt_of_lt_of_le hlt hb.size⟩
theorem Bx.alloc {W : World} {b : Nat} {n : Bool} {s : ByteArray} (h : Bx W b n s) (o : Obj) : Bx (W.alloc o) b n s := by
  have hb := (Below.refl W.heap.size W).alloc (Nat.le_refl _) o
  exact h.below hb
theorem Bx.new (W : World) (b : Nat) (n : Bool) (s : ByteArray) (hb : b = W.heap.size) : Bx (W.alloc (.cells #[.bool n, .string s] 29)) b n s := by
  subst hb
  obtain ⟨a, b, c, d, e⟩ := blk_facts (heap_alloc_new W (.cells #[.bool n, .string s] 29))
  exact ⟨a, b, c, d, e⟩
theorem Bx.set {W : World} {b : Nat} {n n' : Bool} {s s' : ByteArray} (h : Bx W b n s) : Bx ((W.setCell ⟨b, 0, none⟩ (.bool n')).setCell ⟨b, 1, none⟩ (.string s')) b n' s' := by
  have e1 : (W.setCell ⟨b, 0, none⟩ (.bool n')).cell? ⟨b, 1, none⟩ = some (.string s) := (World.cell?_setCell_other _ _ _ _ (fun e => by have := congrArg Addr.off e; simp at this)).trans h.c1
  refine ⟨?_, World.cell?_setCell_same _ _ _ e1, ?_, ?_, by simpa using h.lt⟩
  · exact (World.cell?_setCell_other _ _ _ _ (fun e => by have := congrArg Addr.off e; simp at this)).trans (World.cell?_setCell_same _ _ _ h.c0)
  · rw [World.frozen?_setCell, World.frozen?_setCell]; exact h.z0
  · rw [World.frozen?_setCell, World.frozen?_setCell]; exact h.z1
theorem Bx.other {W : World} {b c : Nat} {n : Bool} {s : ByteArray} {u v : Value} (h : Bx W b n s) (hne : b ≠ c) : Bx ((W.setCell ⟨c, 0, none⟩ u).setCell ⟨c, 1, none⟩ v) b n s := by
  have e : ∀ (X : World) (o p : Nat) (y : Value), (X.setCell ⟨c, p, none⟩ y).cell? ⟨b, o, none⟩ = X.cell? ⟨b, o, none⟩ := fun X o p y => World.cell?_setCell_other _ _ _ _ (fun e => hne (congrArg Addr.block e).symm)
  refine ⟨(e _ _ _ _).trans ((e _ _ _ _).trans h.c0), (e _ _ _ _).trans ((e _ _ _ _).trans h.c1), ?_, ?_, by simpa using h.lt⟩
  · rw [World.frozen?_setCell, World.frozen?_setCell]; exact h.z0
  · rw [World.frozen?_setCell, World.frozen?_setCell]; exact h.z1
/-- Boxes of integers, by their cells. -/
def Bxs (L : List (Nat × Bool × ByteArray)) (W : World) : Prop := ∀ x ∈ L, Bx W x.1 x.2.1 x.2.2
theorem Bxs.nil (W : World) : Bxs [] W := fun x h => by cases h
theorem Bxs.cons {L : List (Nat × Bool × ByteArray)} {W : World} {b : Nat} {n : Bool} {s : ByteArray} (h : Bxs L W) (hb : Bx W b n s) : Bxs ((b, n, s) :: L) W := fun x hx => by
  rcases List.mem_cons.1 hx with rfl | hx
  · exact hb
  · exact h x hx
theorem Bxs.below {L : List (Nat × Bool × ByteArray)} {W W1 W' : World} (h : Bxs L W) (hb : Below W1.heap.size W1 W') (e : W1.heap = W.heap := by rfl) : Bxs L W' := fun x hx => (h x hx).below hb e
/-- A world that lies behind W, with what was there as it was. -/
structure Cl (W : World) where
  x : World
  h : Below W.heap.size W x
/-- A region that draws its order, reads, and calls what makes memory alone: walked once, in the order of the text. -/
theorem wp_region_cls {id : Nat} {Q : Exit → Act → World → Prop} {a : Act} {W : World} {l : List Oper} (hB : Region.lexB .any l.toArray = true)
    (h : wpQuiet Try.prog l.toArray (fun w' => ∃ u : Cl W, w' = u.x) (fun a' => ∀ w', (∃ u : Cl W, w' = u.x) → Q .normal a' w') l a) : (Code.region id l.toArray true).wp Try.prog Q a W :=
  wp_region_quiet (C := fun w' => ∃ u : Cl W, w' = u.x) (by kernel_rfl) hB ⟨⟨{ W with drawn := W.drawn + 1 }, ⟨rfl, rfl, rfl, Nat.le_refl _, fun _ _ => rfl⟩⟩, rfl⟩ (by simpa using h)
theorem quiet_cls {W : World} {f : Nat} {args : Array Value} {v : Value} (h : ∀ X, Calls Try.prog f args X fun e w' => e = .returned v ∧ Below X.heap.size X w') (u : Cl W) :
    Calls Try.prog f args u.x fun e w'' => e = .returned v ∧ ∃ u' : Cl W, w'' = u'.x :=
  (h u.x).mono fun _ w' ⟨he, hb⟩ => ⟨he, ⟨⟨w', bstep u.h hb⟩, rfl⟩⟩
theorem cls_some (W : World) : Nonempty (Cl W) := ⟨⟨W, Below.refl _ _⟩⟩

theorem cells_get {w : World} {B t i : Nat} {vs : Array Value} (h : w.heap[B]? = some (.cells vs t (0, 0))) : w.cell? ⟨B, i, none⟩ = vs[i]? := by
  simp only [World.cell?, h]; rfl

end Go.Proofs.Gv

namespace Go.Proofs.Gv
open Go Go.RowKit

/-- Sign and bytes are those of a canonical integer. -/
def Canon (na : Bool) (sa : ByteArray) : Prop := sg na (bv sa.data.toList) = na ∧ mg (bv sa.data.toList) = sa

set_option maxHeartbeats 800000 in
theorem Check_any (na : Bool) (sa : ByteArray) (w : World) (ha : sa.size ≤ 30000000) :
    Calls Try.prog 94 #[.agg #[.bool na, .string sa]] w fun e w' => (∃ r : Int, e = .returned (.int .i64 r) ∧ (Canon na sa → r = 0) ∧ (¬ Canon na sa → r = 1)) ∧ Below w.heap.size w w' := by
  have L1 := nlen_bv (s := sa)
  go_enter Try.func94, Try.ntmps94
  go_wp2
  obtain ⟨W, hW⟩ : ∃ W, w.alloc (.cells #[.bool na, .string sa] 29) = W := ⟨_, rfl⟩
  have HO := Lib.hid (Own.one w (.cells #[.bool na, .string sa] 29))
  rw [hW] at HO ⊢
  clear hW
  obtain ⟨a0, a1, a2, a3, a4⟩ := HO.out.blk 0 w.heap.size rfl rfl
  go_region_held3 (fun w' => w'.cell? ⟨w.heap.size, 0, none⟩ = some (.bool na) ∧ w'.cell? ⟨w.heap.size, 1, none⟩ = some (.string sa)) (go_keep) (first
    | (go_at_call 46; refine (digits_any na sa _ (by omega)).mono ?_; rintro e w1 ⟨A, c, rfl, hn, hb⟩; have HO1 := Lib.hid (HO.out.next hb); obtain ⟨k0, k1, k2, k3, k4⟩ := HO1.out.blk 0 w.heap.size rfl rfl; have Hn := Lib.hid hn; clear hb hn)
    | (go_at_call 44; refine (number_nt _ A c _ _ (by exact Hn.out.same) (by have := nlen_bv (s := sa); omega)).mono ?_; rintro e w2 ⟨rfl, hb2⟩; have HO2 := Lib.hid (HO1.out.next hb2); obtain ⟨m0, m1, m2, m3, m4⟩ := HO2.out.blk 0 w.heap.size rfl rfl; clear hb2))
  by_cases hc : Canon na sa
  · rw [eqI_iff.mpr hc]
    go_wp2
    refine bodyPost_ret (v := .int .i64 0) (by simp [results, Try.results94, go_sem]) rfl ?_
    exact ⟨⟨0, rfl, fun _ => rfl, fun h => absurd hc h⟩, HO2.out.below⟩
  · have t : eqI (sg na (bv sa.data.toList)) (mg (bv sa.data.toList)) na sa = false := by
      rw [Bool.eq_false_iff]; exact fun h => hc (eqI_iff.mp h)
    rw [t]
    go_wp2
    refine bodyPost_ret (v := .int .i64 1) (by simp [results, Try.results94, go_sem]) rfl ?_
    exact ⟨⟨1, rfl, fun h => absurd h hc, fun _ => rfl⟩, HO2.out.below⟩
end Go.Proofs.Gv

namespace Go.Proofs.Gv
open Go Go.RowKit

/-- Sign and bytes stand for the integer z. -/
structure Rp (n : Bool) (s : ByteArray) (z : Int) : Prop where
  val : iv n s = z
  sz : s.size ≤ 1000000
theorem p256 (N : Nat) : (256 : Nat) ^ N = 2 ^ (8 * N) := by rw [Nat.pow_mul]
theorem szB {x : Nat} (N : Nat) (h : x < 2 ^ (8 * N)) : (mg x).size ≤ N := size_mg (by rw [p256]; exact h)
theorem Rp.V {z : Int} (N : Nat) (h : z.natAbs < 2 ^ N) (hN : N ≤ 7900000) : Rp (sgn z) (mg z.natAbs) z :=
  ⟨iv_V z, Nat.le_trans (szB (N / 8 + 1) (Nat.lt_of_lt_of_le h (Nat.pow_le_pow_right (by decide) (by omega)))) (by omega)⟩
theorem bv_emp : bv (⟨#[]⟩ : ByteArray).data.toList = 0 := by rw [← mg_zero, bv_mg]
theorem Rp.zero : Rp false ⟨#[]⟩ 0 := ⟨by unfold iv; rw [bv_emp]; rfl, by decide⟩
theorem Rp.lt {n : Bool} {s : ByteArray} {z : Int} (h : Rp n s z) {k : Nat} (hk : s.size ≤ k) : z.natAbs < 2 ^ (8 * k) := by
  rw [← h.val, ← p256]
  exact Nat.lt_of_lt_of_le (iv_lt n s) (Nat.pow_le_pow_right (by decide) hk)
theorem Rp.neg {n : Bool} {s : ByteArray} {z : Int} (h : Rp n s z) (hz : z < 0) : n = true ∧ 0 < bv s.data.toList := by
  have hv := h.val
  unfold iv at hv
  cases n
  · simp at hv; omega
  · simp at hv; exact ⟨rfl, by omega⟩
theorem Rp.pos {n : Bool} {s : ByteArray} {z : Int} (h : Rp n s z) (hz : 0 ≤ z) : n = true → bv s.data.toList = 0 := by
  have hv := h.val
  unfold iv at hv
  rintro rfl
  simp at hv; omega

section
variable {na nb : Bool} {sa sb : ByteArray} {a b : Int}
theorem cAdd (ha : Rp na sa a) (hb : Rp nb sb b) (W : World) :
    Calls Try.prog 42 #[.agg #[.bool na, .string sa], .agg #[.bool nb, .string sb]] W fun e w' => e = .returned (.agg #[.bool (sgn (a + b)), .string (mg (a + b).natAbs)]) ∧ Below W.heap.size W w' := by
  have := Add_any na nb sa sb W (Nat.le_trans ha.sz (by decide)) (Nat.le_trans hb.sz (by decide))
  rwa [ha.val, hb.val] at this
theorem cSub (ha : Rp na sa a) (hb : Rp nb sb b) (W : World) :
    Calls Try.prog 21 #[.agg #[.bool na, .string sa], .agg #[.bool nb, .string sb]] W fun e w' => e = .returned (.agg #[.bool (sgn (a - b)), .string (mg (a - b).natAbs)]) ∧ Below W.heap.size W w' := by
  have := Sub_any na nb sa sb W (Nat.le_trans ha.sz (by decide)) (Nat.le_trans hb.sz (by decide))
  rwa [ha.val, hb.val] at this
theorem cMul (ha : Rp na sa a) (hb : Rp nb sb b) (W : World) :
    Calls Try.prog 13 #[.agg #[.bool na, .string sa], .agg #[.bool nb, .string sb]] W fun e w' => e = .returned (.agg #[.bool (sgn (a * b)), .string (mg (a * b).natAbs)]) ∧ Below W.heap.size W w' := by
  have := Mul_any na nb sa sb W (Nat.le_trans ha.sz (by decide)) (Nat.le_trans hb.sz (by decide))
  rwa [ha.val, hb.val] at this
theorem cCmp (ha : Rp na sa a) (hb : Rp nb sb b) (W : World) :
    Calls Try.prog 20 #[.agg #[.bool na, .string sa], .agg #[.bool nb, .string sb]] W fun e w' => e = .returned (.int .i64 (cmpI a b)) ∧ Below W.heap.size W w' := by
  have := Compare_any na nb sa sb W (Nat.le_trans ha.sz (by decide)) (Nat.le_trans hb.sz (by decide))
  rwa [ha.val, hb.val] at this
theorem canon_V (z : Int) : Canon (sgn z) (mg z.natAbs) := by
  unfold Canon
  rw [bv_mg, sg_eq]
  refine ⟨?_, rfl⟩
  congr 1
  unfold sgn
  by_cases h : z < 0
  · simp [h]; omega
  · simp [h]; omega
end
end Go.Proofs.Gv

namespace Go.Proofs.Gv
open Go Go.RowKit

theorem cmpI_congr {a b c d : Int} (h1 : a < b ↔ c < d) (h2 : b < a ↔ d < c) : cmpI a b = cmpI c d := by
  unfold cmpI
  by_cases e1 : a < b
  · rw [if_pos e1, if_pos (h1.1 e1)]
  · rw [if_neg e1, if_neg (mt h1.2 e1)]
    by_cases e2 : b < a
    · rw [if_pos e2, if_pos (h2.1 e2)]
    · rw [if_neg e2, if_neg (mt h2.2 e2)]
theorem cmpI_cases (a b : Int) : (a < b ∧ cmpI a b = -1 ∧ cmpI b a = 1) ∨ (a = b ∧ cmpI a b = 0 ∧ cmpI b a = 0) ∨ (b < a ∧ cmpI a b = 1 ∧ cmpI b a = -1) := by
  rcases Int.lt_trichotomy a b with h | h | h
  · exact .inl ⟨h, cmpI_lt h, cmpI_gt h⟩
  · subst h; exact .inr (.inl ⟨rfl, cmpI_eq a, cmpI_eq a⟩)
  · exact .inr (.inr ⟨h, cmpI_gt h, cmpI_lt h⟩)

theorem cmpI_lt0 (a b : Int) : decide (cmpI a b < 0) = decide (a < b) := by
  rcases cmpI_cases a b with ⟨h, e, _⟩ | ⟨h, e, _⟩ | ⟨h, e, _⟩ <;> rw [e]
  · rw [show decide (a < b) = true from decide_eq_true h]; rfl
  · rw [show decide (a < b) = false from decide_eq_false (by omega)]; rfl
  · rw [show decide (a < b) = false from decide_eq_false (by omega)]; rfl
end Go.Proofs.Gv

namespace Go.Proofs.Gv
open Go Go.RowKit

theorem cOf (z : Int) (h1 : -9223372036854775808 ≤ z) (h2 : z < 9223372036854775808) (W : World) : Calls Try.prog 12 #[.int .i64 z] W fun e w' => e = .returned (.agg #[.bool (sgn z), .string (mg z.natAbs)]) ∧ Below W.heap.size W w' := Of_any z W h1 h2
end Go.Proofs.Gv

namespace Go.Proofs.Gv
open Go Go.RowKit
/-- A box of any number of cells. -/
structure BC (W : World) (b : Nat) (l : List Value) : Prop where
  lt : b < W.heap.size
  cell : ∀ i v, l[i]? = some v → W.cell? ⟨b, i, none⟩ = some v
  fz : ∀ i, i < l.length → W.frozen? ⟨b, i, none⟩ = false
theorem BC.below {W W1 W' : World} {b : Nat} {l : List Value} (h : BC W b l) (hb : Below W1.heap.size W1 W') (e : W1.heap = W.heap := by rfl) : BC W' b l := by
  have hlt : b < W1.heap.size := by rw [e]; exact h.lt
  have hc : ∀ o, W1.cell? ⟨b, o, none⟩ = W.cell? ⟨b, o, none⟩ := fun o => World.cell?_of_block (by rw [e])
  have hf : ∀ o, W1.frozen? ⟨b, o, none⟩ = W.frozen? ⟨b, o, none⟩ := fun o => by unfold World.frozen?; rw [e]
  exact ⟨Nat.lt_of_lt_of_le hlt hb.size, fun i v hv => (hb.cell (p := ⟨b, i, none⟩) hlt).trans ((hc i).trans (h.cell i v hv)),
    fun i hi => (hb.frozen (p := ⟨b, i, none⟩) hlt).trans ((hf i).trans (h.fz i hi))⟩
theorem BC.alloc {W : World} {b : Nat} {l : List Value} (h : BC W b l) (o : Obj) : BC (W.alloc o) b l :=
  h.below ((Below.refl W.heap.size W).alloc (Nat.le_refl _) o)
theorem BC.set {W : World} {b : Nat} {l : List Value} (h : BC W b l) (i : Nat) (v : Value) (hi : i < l.length) : BC (W.setCell ⟨b, i, none⟩ v) b (l.set i v) := by
  refine ⟨by simpa using h.lt, fun j u hu => ?_, fun j hj => ?_⟩
  · by_cases hij : i = j
    · subst hij
      rw [List.getElem?_set_self hi] at hu
      obtain rfl := Option.some.inj hu
      exact World.cell?_setCell_same _ _ _ (h.cell i _ (List.getElem?_eq_getElem hi))
    · rw [List.getElem?_set_ne hij] at hu
      exact (World.cell?_setCell_other _ _ _ _ (fun e => hij (congrArg Addr.off e))).trans (h.cell j u hu)
  · rw [World.frozen?_setCell]; exact h.fz j (by simpa using hj)
theorem BC.other {W : World} {b c : Nat} {l : List Value} (h : BC W b l) (i : Nat) (v : Value) (hne : b ≠ c) : BC (W.setCell ⟨c, i, none⟩ v) b l :=
  ⟨by simpa using h.lt, fun j u hu => (World.cell?_setCell_other _ _ _ _ (fun e => hne (congrArg Addr.block e).symm)).trans (h.cell j u hu),
    fun j hj => by rw [World.frozen?_setCell]; exact h.fz j hj⟩
theorem BC.of {W : World} {b : Nat} {a : Array Value} {T : TypeId} (h : W.heap[b]? = some (.cells a T (0, 0))) : BC W b a.toList := by
  refine ⟨(Array.getElem?_eq_some_iff.1 h).1, fun i v hv => ?_, fun i hi => ?_⟩
  · rw [Array.getElem?_toList] at hv
    simp [World.cell?, h, hv]
  · simp [World.frozen?, h]
theorem BC.new (W : World) (b : Nat) (a : Array Value) (T : TypeId) (hb : b = W.heap.size) : BC (W.alloc (.cells a T)) b a.toList := by
  subst hb
  exact BC.of (T := T) (heap_alloc_new W (.cells a T))
/-- Boxes, by their cells. -/
def BCs (L : List (Nat × List Value)) (W : World) : Prop := ∀ x ∈ L, BC W x.1 x.2
theorem BCs.nil (W : World) : BCs [] W := fun x h => by cases h
theorem BCs.cons {L : List (Nat × List Value)} {W : World} {b : Nat} {l : List Value} (h : BCs L W) (hb : BC W b l) : BCs ((b, l) :: L) W := fun x hx => by
  rcases List.mem_cons.1 hx with rfl | hx
  · exact hb
  · exact h x hx
theorem BCs.below {L : List (Nat × List Value)} {W W1 W' : World} (h : BCs L W) (hb : Below W1.heap.size W1 W') (e : W1.heap = W.heap := by rfl) : BCs L W' := fun x hx => (h x hx).below hb e
theorem BCs.push {L : List (Nat × List Value)} {W : World} (h : BCs L W) (b : Nat) (a : Array Value) (T : TypeId) (hb : b = W.heap.size) : BCs ((b, a.toList) :: L) (W.alloc (.cells a T)) :=
  BCs.cons (fun x hx => (h x hx).alloc _) (BC.new W b a T hb)
/-- Two cells of a box set one behind the other. -/
theorem BC.set2 {W : World} {b : Nat} {l : List Value} (h : BC W b l) (i j : Nat) (u v : Value) (hi : i < l.length) (hj : j < l.length) :
    BC ((W.setCell ⟨b, i, none⟩ u).setCell ⟨b, j, none⟩ v) b ((l.set i u).set j v) := (h.set i u hi).set j v (by simpa using hj)
/-- What the walk reads of a box. -/
theorem BC.at {W : World} {b : Nat} {l : List Value} (h : BC W b l) (i : Nat) (v : Value) (e : l[i]? = some v := by rfl) : W.cell? ⟨b, i, none⟩ = some v := h.cell i v e
theorem BC.z {W : World} {b : Nat} {l : List Value} (h : BC W b l) (i : Nat) (e : i < l.length := by decide) : W.frozen? ⟨b, i, none⟩ = false := h.fz i e
theorem BC.z2 {W : World} {b : Nat} {v0 v1 : Value} {l : List Value} (h : BC W b (v0 :: v1 :: l)) : W.frozen? ⟨b, 0, none⟩ = false ∧ W.frozen? ⟨b, 1, none⟩ = false := ⟨h.z 0 (by simp), h.z 1 (by simp)⟩
theorem BC.z4 {W : World} {b : Nat} {v0 v1 v2 v3 : Value} {l : List Value} (h : BC W b (v0 :: v1 :: v2 :: v3 :: l)) : W.frozen? ⟨b, 0, none⟩ = false ∧ W.frozen? ⟨b, 1, none⟩ = false ∧ W.frozen? ⟨b, 2, none⟩ = false ∧ W.frozen? ⟨b, 3, none⟩ = false := ⟨h.z 0 (by simp), h.z 1 (by simp), h.z 2 (by simp), h.z 3 (by simp)⟩
end Go.Proofs.Gv
