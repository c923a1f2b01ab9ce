/- groovelaw39.order: as limited.order, over a row that grows. -/
import Derived.Test.YtglgiofjgfbfgaaHordP
import Derived.Test.YtglgiofjgfbfgaaLawP
import Derived.Test.YtglgiofjgfbfgaaLfilP
import Derived.Test.YtglgiofjgfbfgaaLim3P
import Derived.Test.YtglgiofjgfbfgaaHuf
import Derived.Test.YtglgiofjgfbfgaaRootIP
import Derived.Test.YtglgiofjgfbfgaaBoxesP
import Derived.Sort.LoopGhostIn
import Derived.RangeFuncCalls
import Derived.Shelf.Abstract
import Derived.OwnWalkIn
import Derived.TacticsInMore
import Derived.LoopNIn
import Derived.LoopIn
import Derived.Deep.RegionHeld3
import Derived.Test.YtglgiofjgfbfgaaRange2P
import Derived.Test.YtglgiofjgfbfgaaShelf
import Derived.Shelf.Small.Bits
import Derived.Test.YtglgiofjgfbfgaaTrimP
import Derived.Lib.SlTrimSet
import Derived.Test.YtglgiofjgfbfgaaMulP
import Derived.Test.YtglgiofjgfbfgaaAddP
import Derived.Shelf.Strings.SlTrimAscii
import Derived.Lib.ConvBytes
import Derived.Test.YtglgiofjgfbfgaaHrowP
import Derived.Laws.EntriesVeiled
import Derived.Test.YtglgiofjgfbfgaaHufM
import Derived.Test.YtglgiofjgfbfgaaHmeqP
import Derived.Deep.QuietTactic
set_option linter.unusedSimpArgs false
set_option linter.unusedVariables false
namespace Go.Proofs.Gv
open Go Go.RowKit Go.Maps

theorem BC.of_own {W : World} {base : Nat} {e : TypeId} {n g cap : Nat} {xs : List Value} (h : W.ownsRow base e 1 (.slice (some ⟨g, 0, none⟩) n cap) n xs) : BC W g xs := by
  rcases h.2 with ⟨e0, -⟩ | ⟨g', cap', cur, hv, hb, hg, h1, h2, h3, h4⟩
  · cases e0
  · cases hv
    have hbc := BC.of hg
    refine ⟨hbc.lt, fun i v hi => hbc.cell i v ?_, fun i hi => hbc.fz i ?_⟩
    · rw [← h4, List.getElem?_take] at hi
      split at hi
      · exact hi
      · cases hi
    · rw [← h4, List.length_take] at hi
      omega
end Go.Proofs.Gv

namespace Go.Proofs.Gv

theorem insR_asc (W : Nat → Nat) (x : Nat) : ∀ l : List Nat, l.Pairwise (fun a b => W a ≤ W b) → (insR W x l).Pairwise (fun a b => W a ≤ W b)
  | [], _ => by simp [insR]
  | y :: r, h => by
    rw [List.pairwise_cons] at h
    unfold insR
    split
    · rename_i hlt
      rw [List.pairwise_cons]
      refine ⟨fun z hz => ?_, insR_asc W x r h.2⟩
      rcases (insR_mem W x z r).1 hz with rfl | hz
      · omega
      · exact h.1 z hz
    · rename_i hge
      rw [List.pairwise_cons]
      refine ⟨fun z hz => ?_, List.pairwise_cons.2 h⟩
      rcases List.mem_cons.1 hz with rfl | hz
      · omega
      · have := h.1 z hz; omega
theorem ordR_asc (W : Nat → Nat) : ∀ n, (ordR W n).Pairwise (fun a b => W a ≤ W b)
  | 0 => List.Pairwise.nil
  | n + 1 => by unfold ordR; exact insR_asc W n _ (ordR_asc W n)
/- Lengths in order: the cost of pairs. -/
end Go.Proofs.Gv

namespace Go.Proofs.Gv
theorem low_self (q : Rat) : Rat.divInt q.num q.den = q := Rat.num_divInt_den q
theorem den0 (q : Rat) : (q.den : Int) ≠ 0 := by have := q.den_pos; omega
theorem q_add (a b : Rat) : Rat.divInt (a.num * b.den + b.num * a.den) (a.den * b.den) = a + b := by
  rw [← Rat.divInt_add_divInt _ _ (den0 a) (den0 b), low_self, low_self]
theorem q_quo (a b : Rat) : Rat.divInt (a.num * b.den) (a.den * b.num) = a / b := by
  rw [← Rat.divInt_mul_divInt, low_self, Rat.div_def, Rat.inv_def]
theorem q_neg_num (a : Rat) : (-a).num = -a.num := rfl
theorem q_addInt_num (z : Rat) (f : Int) : ((f : Rat) + z).num = f * z.den + z.num ∧ ((f : Rat) + z).den = z.den := by
  have hc : Nat.Coprime (f * z.den + z.num).natAbs z.den := by
    have h : Int.gcd (f * z.den + z.num) z.den = 1 := by
      rw [Int.add_comm, Int.gcd_add_mul_right_left]
      exact z.reduced
    exact h
  have e : (f : Rat) + z = ⟨f * z.den + z.num, z.den, z.den_nz, hc⟩ := by
    rw [Rat.mk_eq_divInt, ← q_add]
    congr 1
    · rw [Rat.num_intCast, Rat.den_intCast]; omega
    · rw [Rat.den_intCast]; omega
  rw [e]; exact ⟨rfl, rfl⟩
theorem q_inv_num {z : Rat} (h : 0 < z) : (z⁻¹).num = z.den ∧ ((z⁻¹).den : Int) = z.num := by
  have hn : 0 < z.num := by simpa [Rat.lt_iff] using h
  rw [Rat.num_inv, Rat.den_inv, if_neg (by omega), Int.sign_eq_one_of_pos hn]
  constructor <;> omega
theorem q_inv_lt {x y : Rat} (hx : 0 < x) (hy : 0 < y) : x⁻¹ ≤ y⁻¹ ↔ y ≤ x := by
  have h1 := q_inv_num hx
  have h2 := q_inv_num hy
  rw [Rat.le_iff, Rat.le_iff, h1.1, h1.2, h2.1, h2.2, Int.mul_comm y.num, Int.mul_comm x.num]

/-- what holds of the bounds where neither is reached -/
theorem sim_step {a b : Rat} (h0 : 0 < a) (hab : a ≤ b) (h1 : (a.floor : Rat) ≠ a) (h2 : ¬ ((a.floor + 1 : Int) : Rat) ≤ b) :
    0 ≤ a.floor ∧ (a.floor : Rat) < a ∧ b < (a.floor : Rat) + 1 ∧ 0 < (b - a.floor)⁻¹ ∧ (b - a.floor)⁻¹ ≤ (a - a.floor)⁻¹ ∧
      ((b - a.floor)⁻¹).den < b.den ∧ ((a - a.floor)⁻¹).den < a.den := by
  have hf : (a.floor : Rat) < a := Rat.lt_of_le_of_ne (Rat.floor_le a) h1
  have hb : b < (a.floor : Rat) + 1 := by
    have := Rat.not_le.1 h2
    rwa [Rat.intCast_add, Rat.intCast_one] at this
  have ha1 : a < (a.floor : Rat) + 1 := by grind
  have pa : 0 < a - a.floor := by grind
  have pb : 0 < b - a.floor := by grind
  have key : ∀ x : Rat, 0 < x - a.floor → x < (a.floor : Rat) + 1 → ((x - a.floor)⁻¹).den < x.den := by
    intro x hx hx1
    have hn := (q_inv_num hx).2
    have h3 : x - a.floor = ((-a.floor : Int) : Rat) + x := by rw [Rat.intCast_neg]; grind
    have h4 := q_addInt_num x (-a.floor)
    have h5 : x - a.floor < ((1 : Int) : Rat) := by rw [Rat.intCast_one]; grind
    rw [Rat.lt_iff, Rat.den_intCast, Rat.num_intCast, h3, h4.1, h4.2] at h5
    rw [h3, h4.1] at hn
    rw [h3]
    omega
  refine ⟨?_, hf, hb, Rat.inv_pos.2 pb, (q_inv_lt pb pa).2 (by grind), key b pb hb, key a pa ha1⟩
  rw [Rat.le_floor_iff, Rat.intCast_zero]
  exact Rat.le_of_lt h0

end Go.Proofs.Gv

namespace Go.Proofs.Gv
/-- above and below less than 2 ^ N -/
structure Qb (N : Nat) (q : Rat) : Prop where
  up : q.num.natAbs < 2 ^ N
  lo : q.den < 2 ^ N
theorem Qb.mono {N M : Nat} {q : Rat} (h : Qb N q) (hNM : N ≤ M) : Qb M q :=
  have := Nat.pow_le_pow_right (show 0 < 2 by decide) hNM
  ⟨Nat.lt_of_lt_of_le h.up this, Nat.lt_of_lt_of_le h.lo this⟩
theorem div_num_le (n d : Int) : (Rat.divInt n d).num.natAbs ≤ n.natAbs := by
  by_cases h0 : d = 0
  · subst h0; rw [Rat.divInt_zero]; exact Nat.zero_le _
  · rw [Rat.num_divInt]
    have hg : ((d.gcd n : Nat) : Int) ∣ d.sign * n := Int.dvd_trans (Int.gcd_dvd_right ..) (Int.dvd_mul_left ..)
    obtain ⟨c, hc⟩ := hg
    have hp : 0 < d.gcd n := Int.gcd_pos_of_ne_zero_left _ h0
    rw [hc, Int.mul_ediv_cancel_left _ (by omega)]
    have e : (d.sign * n).natAbs = n.natAbs := by rw [Int.natAbs_mul, Int.natAbs_sign_of_ne_zero h0, Nat.one_mul]
    rw [hc, Int.natAbs_mul, Int.natAbs_natCast] at e
    rw [← e]
    exact Nat.le_mul_of_pos_left _ hp
theorem div_den_le (n d : Int) : (Rat.divInt n d).den ≤ max 1 d.natAbs := by
  rw [Rat.den_divInt]
  split
  · omega
  · exact Nat.le_trans (Nat.div_le_self _ _) (by omega)
theorem Qb.div {N : Nat} {n d : Int} (hn : n.natAbs < 2 ^ N) (hd : d.natAbs < 2 ^ N) (h1 : 1 ≤ N) : Qb N (Rat.divInt n d) := by
  refine ⟨Nat.lt_of_le_of_lt (div_num_le n d) hn, Nat.lt_of_le_of_lt (div_den_le n d) ?_⟩
  have := Nat.pow_le_pow_right (show 0 < 2 by decide) h1
  omega
theorem q_mul_lt {x y N M : Nat} (hx : x < 2 ^ N) (hy : y < 2 ^ M) : x * y < 2 ^ (N + M) := by
  rw [Nat.pow_add]
  have h := Nat.mul_le_mul (Nat.le_sub_one_of_lt hx) (Nat.le_sub_one_of_lt hy)
  have hp := Nat.two_pow_pos N
  have hq := Nat.two_pow_pos M
  refine Nat.lt_of_le_of_lt h ?_
  exact Nat.lt_of_le_of_lt (Nat.mul_le_mul_right _ (Nat.sub_le _ _)) (Nat.mul_lt_mul_of_pos_left (by omega) hp)
theorem imul_lt {x y : Int} {N M : Nat} (hx : x.natAbs < 2 ^ N) (hy : y.natAbs < 2 ^ M) : (x * y).natAbs < 2 ^ (N + M) := by
  rw [Int.natAbs_mul]; exact q_mul_lt hx hy
theorem iadd_lt {x y : Int} {N : Nat} (hx : x.natAbs < 2 ^ N) (hy : y.natAbs < 2 ^ N) : (x + y).natAbs < 2 ^ (N + 1) := by
  rw [Nat.pow_succ]; omega
theorem Qb.num {N : Nat} {q : Rat} (h : Qb N q) : q.num.natAbs < 2 ^ N := h.up
theorem Qb.den {N : Nat} {q : Rat} (h : Qb N q) : ((q.den : Nat) : Int).natAbs < 2 ^ N := by rw [Int.natAbs_natCast]; exact h.lo
theorem Qb.add {N M : Nat} {a b : Rat} (ha : Qb N a) (hb : Qb M b) : Qb (N + M + 1) (a + b) := by
  rw [← q_add]
  exact Qb.div (iadd_lt (imul_lt ha.num hb.den) (Nat.add_comm M N ▸ imul_lt hb.num ha.den)) (Nat.lt_trans (imul_lt ha.den hb.den) (Nat.pow_lt_pow_right (by decide) (by omega))) (by omega)
theorem Qb.neg {N : Nat} {a : Rat} (ha : Qb N a) : Qb N (-a) := ⟨by rw [q_neg_num, Int.natAbs_neg]; exact ha.up, ha.lo⟩
theorem Qb.pos {N : Nat} {a : Rat} (ha : Qb N a) : 1 ≤ N := by
  have := a.den_pos
  have h := ha.lo
  cases N with
  | zero => simp at h; omega
  | succ N => omega
theorem Qb.quo {N M : Nat} {a b : Rat} (ha : Qb N a) (hb : Qb M b) : Qb (N + M) (a / b) := by
  have := ha.pos
  rw [← q_quo]
  exact Qb.div (imul_lt ha.num hb.den) (imul_lt ha.den hb.num) (by omega)
theorem Qb.int {N : Nat} {z : Int} (h : z.natAbs < 2 ^ N) (h1 : 1 ≤ N) : Qb N (z : Rat) := by
  have := Nat.pow_le_pow_right (show 0 < 2 by decide) h1
  exact ⟨h, by rw [Rat.den_intCast]; omega⟩
theorem Qb.floor {N : Nat} {a : Rat} (ha : Qb N a) : a.floor.natAbs < 2 ^ N := by
  have h := ha.up
  rw [Rat.floor_def]
  have hp := a.den_pos
  have h1 := Int.natAbs_ediv_le_natAbs a.num a.den
  omega
end Go.Proofs.Gv

namespace Go.Proofs.Gv
open Go Go.RowKit
/-- Four cells stand for the number q. -/
structure Rq (n : Bool) (s : ByteArray) (m : Bool) (t : ByteArray) (q : Rat) : Prop where
  val : Rat.divInt (iv n s) (iv m t) = q
  s1 : s.size ≤ 20000
  s2 : t.size ≤ 20000
theorem Rq.up {n m : Bool} {s t : ByteArray} {q : Rat} (h : Rq n s m t q) : Rp n s (iv n s) := ⟨rfl, Nat.le_trans h.s1 (by decide)⟩
theorem Rq.lo {n m : Bool} {s t : ByteArray} {q : Rat} (h : Rq n s m t q) : Rp m t (iv m t) := ⟨rfl, Nat.le_trans h.s2 (by decide)⟩
theorem iv_mgN (d : Nat) : iv false (mg d) = (d : Int) := by unfold iv; simp [bv_mg]
theorem mgB {x N : Nat} (h : x < 2 ^ N) (hN : N ≤ 159000) : (mg x).size ≤ 20000 :=
  Nat.le_trans (szB ((N + 7) / 8) (Nat.lt_of_lt_of_le h (Nat.pow_le_pow_right (by decide) (by omega)))) (by omega)
/-- The cells of a result stand for it. -/
theorem Rq.V {q : Rat} {N : Nat} (h : Qb N q) (hN : N ≤ 159000) : Rq (sgn q.num) (mg q.num.natAbs) false (mg q.den) q :=
  ⟨by rw [iv_V, iv_mgN, low_self], mgB h.up hN, mgB h.lo hN⟩
theorem Rq.qb {n m : Bool} {s t : ByteArray} {q : Rat} {k : Nat} (h : Rq n s m t q) (h1 : s.size ≤ k) (h2 : t.size ≤ k) (hk : 1 ≤ k) : Qb (8 * k) q := by
  rw [← h.val]
  exact Qb.div (h.up.lt h1) (h.lo.lt h2) (by omega)
end Go.Proofs.Gv

namespace Go.Proofs.Gv
/-- the bounds of the next step are no longer -/
theorem Qb.step {N : Nat} {a b : Rat} (ha : Qb N a) (hb : Qb N b) (h0 : 0 < a) (hab : a ≤ b) (h1 : (a.floor : Rat) ≠ a) (h2 : ¬ ((a.floor + 1 : Int) : Rat) ≤ b) :
    Qb N (b - a.floor)⁻¹ ∧ Qb N (a - a.floor)⁻¹ := by
  obtain ⟨_, f1, f2, p1, p2, d1, d2⟩ := sim_step h0 hab h1 h2
  have key : ∀ x : Rat, 0 < x - a.floor → ((x - a.floor)⁻¹).den < x.den → Qb N x → Qb N (x - a.floor)⁻¹ := by
    intro x hx hd hq
    have hn := (q_inv_num hx).1
    have h3 : x - a.floor = ((-a.floor : Int) : Rat) + x := by rw [Rat.intCast_neg]; grind
    have h4 := (q_addInt_num x (-a.floor)).2
    have := hq.lo
    refine ⟨?_, by omega⟩
    rw [hn, h3, h4, Int.natAbs_natCast]
    exact this
  exact ⟨key b (by grind) d1 hb, key a (by grind) d2 ha⟩
end Go.Proofs.Gv

namespace Go.Proofs.Gv
open Go Go.RowKit
attribute [local go_sem] Oper.semAt_some

/-- A slice, by its three parts. -/
def slV (t : Option Addr × Nat × Nat) : Value := .slice t.1 t.2.1 t.2.2
/-- A store into a box that holds a slice turns no number. -/
theorem Nt.box {W : World} {B : Nat} {A : Option Addr} {c x L T : Nat} {t : Option Addr × Nat × Nat} (h : Nt W B A c x) (hb : Boxed W L T (slV t)) (v : Value) : Nt (W.setCell ⟨L, 0, none⟩ v) B A c x :=
  ⟨h.le, h.bd, fun hn => by
    obtain ⟨g, e, hg, hc⟩ := h.rd hn
    refine ⟨g, e, hg, fun j hj => ?_⟩
    rw [World.cell?_setCell_other _ _ _ _ (fun e2 => ?_)]
    · exact hc j hj
    · have eb : L = g := congrArg Addr.block e2
      have h0 := hc 0 hn
      have h1 := hb.cell
      rw [eb, h0] at h1
      unfold slV at h1
      cases h1⟩
/-- What is no variable's block holds no number. -/
theorem Nt.putObj {W : World} {B : Nat} {A : Option Addr} {c x l : Nat} {o o' : Obj} (h : Nt W B A c x) (hl : W.heap[l]? = some o) (ho : o.isCells = false) : Nt (W.putObj l o') B A c x :=
  ⟨h.le, h.bd, fun hn => by
    obtain ⟨g, e, hg, hc⟩ := h.rd hn
    refine ⟨g, e, hg, fun j hj => ?_⟩
    have h0 := hc j hj
    have hne : g ≠ l := fun e2 => by
      subst e2
      unfold World.cell? at h0
      simp only [hl] at h0
      cases o <;> first | (cases ho; done) | (simp at h0; done)
    rw [← h0]
    exact World.cell?_of_block (World.putObj_heap_other hne)⟩
/-- What the iterator wants of a round: its two variables and all numbers as they were. -/
structure KpE (bx by_ : Nat) (W W' : World) : Prop where
  size : W.heap.size ≤ W'.heap.size
  nt : ∀ {B : Nat} {A : Option Addr} {c x : Nat}, Nt W B A c x → Nt W' B A c x
  hx : ∀ {v : Value}, Boxed W bx 73 v → Boxed W' bx 73 v
  hy : ∀ {v : Value}, Boxed W by_ 73 v → Boxed W' by_ 73 v
theorem KpE.trans {bx by_ : Nat} {A B C : World} (h : KpE bx by_ A B) (k : KpE bx by_ B C) : KpE bx by_ A C :=
  ⟨Nat.le_trans h.size k.size, fun x => k.nt (h.nt x), fun x => k.hx (h.hx x), fun x => k.hy (h.hy x)⟩
theorem belowP {B l : Nat} {w W : World} {o : Obj} (h : Below B w W) (hl : B ≤ l) : Below B w (W.putObj l o) :=
  h.trans ⟨rfl, rfl, rfl, by simp, fun k hk => World.putObj_heap_other (by omega)⟩

end Go.Proofs.Gv

namespace Go.Proofs.Gv
open Go Go.RowKit
/-- All four cells are equal. -/
def eqQ (a : Bool) (s : ByteArray) (c : Bool) (u : ByteArray) (b : Bool) (t : ByteArray) (d : Bool) (v : ByteArray) : Bool := eqI a s b t && eqI c u d v
theorem eqS' (k : Nat) (a b : Bool) (s t : ByteArray) (w : World) :
    (Op.equalIn (k + 2) 29 (.agg #[.bool a, .string s]) (.agg #[.bool b, .string t])).run Try.prog w = .ok (eqI a s b t) w := by
  have hS : Try.prog.underlying 29 = some (.struct (Try.prog.fieldsOf 29)) := by kernel_rfl
  have hp : Try.prog.stoodInHeld 29 = false := by kernel_rfl
  have u4 := Try.underlying4
  have a4 := Try.isAgg4
  have z4 := Try.sizeOf4
  have u9 := Try.underlying9
  have a9 := Try.isAgg9
  have z9 := Try.sizeOf9
  rw [run_equalIn_agg w (k + 1) 29 _ _ hS hp]
  simp only [Program.fieldsOf, Try.underlying29]
  go_simp
  unfold eqI
  by_cases h : s.toList = t.toList <;> cases a <;> cases b <;> simp [h]
theorem eqR (a b c d : Bool) (s t u v : ByteArray) (w : World) :
    (Op.equalIn 10000 108 (.agg #[.bool a, .string s, .bool c, .string u]) (.agg #[.bool b, .string t, .bool d, .string v])).run Try.prog w = .ok (eqQ a s c u b t d v) w := by
  have hS : Try.prog.underlying 108 = some (.struct (Try.prog.fieldsOf 108)) := by kernel_rfl
  have hp : Try.prog.stoodInHeld 108 = false := by kernel_rfl
  have a4 := Try.isAgg29
  have z4 := Try.sizeOf29
  have e1 : ∀ (a b : Bool) (s t : ByteArray) (w : World), (Op.equalIn 9999 29 (.agg #[.bool a, .string s]) (.agg #[.bool b, .string t])).run Try.prog w = .ok (eqI a s b t) w := eqS' 9997
  rw [show (10000 : Nat) = 9999 + 1 from rfl, run_equalIn_agg w 9999 108 _ _ hS hp]
  simp only [Program.fieldsOf, Try.underlying108]
  go_simp
  unfold eqQ
  cases eqI a s b t <;> cases eqI c u d v <;> simp
@[go_sem ↓] theorem run_eqlR (a b c d : Bool) (s t u v : ByteArray) (w : World) :
    (binOp .eql 108 (.agg #[.bool a, .string s, .bool c, .string u]) (.agg #[.bool b, .string t, .bool d, .string v])).run Try.prog w = .ok (.bool (eqQ a s c u b t d v)) w := by
  rw [run_eql_struct, eqR]; rfl
@[go_sem ↓] theorem run_neqR (a b c d : Bool) (s t u v : ByteArray) (w : World) :
    (binOp .neq 108 (.agg #[.bool a, .string s, .bool c, .string u]) (.agg #[.bool b, .string t, .bool d, .string v])).run Try.prog w = .ok (.bool (!eqQ a s c u b t d v)) w := by
  rw [run_neq_struct, eqR]; rfl
@[go_sem] theorem eqGuardR : Try.prog.eqGuardType Try.prog.depth 108 = false := by kernel_rfl
@[go_sem ↓] theorem field_num (a b : Bool) (s t : ByteArray) (w : World) : (Instr.field 108 (.agg #[.bool a, .string s, .bool b, .string t]) 0).run Try.prog w = .ok (.agg #[.bool a, .string s]) w := by kernel_rfl
@[go_sem ↓] theorem field_den (a b : Bool) (s t : ByteArray) (w : World) : (Instr.field 108 (.agg #[.bool a, .string s, .bool b, .string t]) 1).run Try.prog w = .ok (.agg #[.bool b, .string t]) w := by kernel_rfl
end Go.Proofs.Gv

namespace Go.Proofs.Gv
open Go Go.RowKit

theorem Rp.le {n : Bool} {s : ByteArray} {a z : Int} (h : Rp n s a) (hz : z.natAbs ≤ a.natAbs) : Rp (sgn z) (mg z.natAbs) z := by
  refine ⟨iv_V z, Nat.le_trans (size_mg ?_) h.sz⟩
  have h1 := iv_lt n s
  rw [h.val] at h1
  omega
theorem Rp.one : Rp false (mg 1) 1 := Rp.V (z := 1) 1 (by decide) (by decide)
section
variable {na ma nb mb : Bool} {sa ta sb tb : ByteArray} {a b : Rat}
theorem Rq.q1 (h : Rq na sa ma ta a) : ∃ N, N ≤ 160000 ∧ Qb N a := ⟨8 * 20000, Nat.le_refl _, h.qb h.s1 h.s2 (by decide)⟩
end
end Go.Proofs.Gv

namespace Go.Proofs.Gv
open Go Go.RowKit Go.ChangeShapes Go.WideShapes Go.Deep

/-- A row of bytes. -/
def BSl (W : World) (a : Option Addr) (L : List Nat) : Prop := ∀ (i x : Nat), L[i]? = some x → ∃ A, a = some A ∧ W.cell? (A.add i) = some (.int .u8 (x : Int))
theorem BSl.below {W W' : World} {a : Option Addr} {L : List Nat} (h : BSl W a L) (hb : Below W.heap.size W W') : BSl W' a L := fun i x hi => by
  obtain ⟨A, e, hc⟩ := h i x hi
  exact ⟨A, e, (hb.cell (World.block_lt_of_cell? _ _ hc)).trans hc⟩
end Go.Proofs.Gv

namespace Go.Proofs.Gv
open Go Go.RowKit Go.Maps

@[go_sem] theorem run_max5z {P : Program} {w : World} (ts : Array TypeId) (t : TypeId) : (Builtin.max_ ts t #[.int .i64 0, .int .i64 0, .int .i64 0, .int .i64 0, .int .i64 0]).run P w = .ok (.int .i64 0) w := by
  first
  | rfl
  | simp [Builtin.max_, go_sem]
end Go.Proofs.Gv

namespace Go.Proofs.Gv
open Go Go.RowKit Go.Maps

/-- Two rows that grow side by side. -/
structure TwR (W0 W : World) (Bs i : Nat) (v u : Value) (xs ys : List Nat) : Prop where
  x : W.ownsRow Bs 3 1 v i (natV (xs.take i))
  y : W.ownsRow Bs 3 1 u i (natV (ys.take i))
  ne : ∀ g, v.ownBlock = some g → u.ownBlock ≠ some g
  b : Below Bs W0 W
  sz : Bs ≤ W.heap.size
theorem natV_take {xs : List Nat} {i d : Nat} (h : xs[i]? = some d) : natV (xs.take (i + 1)) = natV (xs.take i) ++ [.int .i64 (d : Int)] := by
  rw [List.take_add_one, h]; unfold natV; rw [List.map_append]; rfl
theorem TwR.step {W0 W : World} {Bs i : Nat} {v u : Value} {xs ys : List Nat} (h : TwR W0 W Bs i v u xs ys) {d e : Nat} (hx : xs[i]? = some d) (hy : ys[i]? = some e)
    {W1 w4 W4 w5 : World} {g4 c4 g5 c5 : Nat} (a1 : W.grownBy W1 none) (o4 : w4.ownsRow Bs 3 1 (.slice (some ⟨g4, 0, none⟩) (i + 1) c4) (i + 1) (natV (xs.take i) ++ [.int .i64 (d : Int)])) (r4 : W1.grownBy w4 v.ownBlock) (t4 : v.ownBlock = some g4 ∨ g4 = W1.heap.size) (l4 : g4 < w4.heap.size)
    (a4 : w4.grownBy W4 none) (o5 : w5.ownsRow Bs 3 1 (.slice (some ⟨g5, 0, none⟩) (i + 1) c5) (i + 1) (natV (ys.take i) ++ [.int .i64 (e : Int)])) (r5 : W4.grownBy w5 u.ownBlock) (t5 : u.ownBlock = some g5 ∨ g5 = W4.heap.size) :
    TwR W0 w5 Bs (i + 1) (.slice (some ⟨g4, 0, none⟩) (i + 1) c4) (.slice (some ⟨g5, 0, none⟩) (i + 1) c5) xs ys := by
  have hu : ∀ g, u.ownBlock = some g → Bs ≤ g ∧ g < W.heap.size := fun g hg => own_base h.y hg
  have hv : ∀ g, v.ownBlock = some g → Bs ≤ g ∧ g < W.heap.size := fun g hg => own_base h.x hg
  have s1 := a1.size
  have s2 := r4.size
  have s3 := a4.size
  have s4 := r5.size
  have hne : u.ownBlock ≠ some g4 := fun hg => by
    rcases t4 with t4 | t4
    · exact h.ne g4 t4 hg
    · have := (hu g4 hg).2; omega
  refine ⟨?_, ?_, fun g hg hg2 => ?_, ?_, ?_⟩
  · rw [natV_take hx]
    exact own_grown (own_grown o4 a4 (by simp)) r5 (fun g hg => by cases hg; exact hne)
  · rw [natV_take hy]
    exact o5
  · cases hg
    cases hg2
    rcases t5 with t5 | t5
    · exact hne t5
    · omega
  · exact (((h.b.grown a1 h.sz (by simp)).grown r4 (by have := h.sz; omega) (fun g hg => (hv g hg).1)).grown a4 (by have := h.sz; omega) (by simp)).grown r5 (by have := h.sz; omega) (fun g hg => (hu g hg).1)
  · have := h.sz; omega
end Go.Proofs.Gv

namespace Go.Proofs.Gv
open Go Go.RowKit Go.Maps

/-- A row of rows of integers. -/
def RwS (W : World) (v : Value) (M : List (List (Bool × ByteArray))) : Prop := ∃ (G : Addr) (c : Nat), v = .slice (some G) M.length c ∧ M.length ≤ c ∧ c ≤ maxLen ∧
  ∀ (i : Nat) (row : List (Bool × ByteArray)), M[i]? = some row → ∃ (Ai : Addr) (ci : Nat), W.cell? (G.add i) = some (.slice (some Ai) row.length ci) ∧ row.length ≤ ci ∧ ci ≤ maxLen ∧ Sl W (some Ai) row
theorem RwS.below {W W' : World} {v : Value} {M : List (List (Bool × ByteArray))} (h : RwS W v M) (hb : Below W.heap.size W W') : RwS W' v M := by
  obtain ⟨G, c, rfl, h1, h2, h3⟩ := h
  refine ⟨G, c, rfl, h1, h2, fun i row hi => ?_⟩
  obtain ⟨Ai, ci, c0, h4, h5, h6⟩ := h3 i row hi
  exact ⟨Ai, ci, (hb.cell (World.block_lt_of_cell? _ _ c0)).trans c0, h4, h5, h6.below hb⟩
theorem addr0 (g i : Nat) : (⟨g, 0, none⟩ : Addr).add i = ⟨g, i, none⟩ := by unfold Addr.add; split <;> simp_all
theorem below_drA {n k : Nat} {a b : World} (h : Below n a b) : Below n a (b.drewN k) := ⟨h.os, h.tape, h.output, h.size, h.block⟩
section
variable (a b : Option Addr) (c d : Nat) (L M : List (Bool × ByteArray)) (hL : L.length ≤ 1000) (w : World) (hu : Sl w a L) (hv : Sl w b M)
include hL hu hv
end
/-- A block of one's own that begins with these values. -/
def OwnAt (W : World) (g : Nat) (vs : List Value) : Prop := ∃ l, BC W g l ∧ l.take vs.length = vs
theorem OwnAt.at {W : World} {g : Nat} {vs : List Value} (h : OwnAt W g vs) {i : Nat} {v : Value} (hi : vs[i]? = some v) : W.cell? ⟨g, i, none⟩ = some v := by
  obtain ⟨l, hb, ht⟩ := h
  refine hb.at i v ?_
  have hl := (List.getElem?_eq_some_iff.1 hi).1
  have h2 : (l.take vs.length)[i]? = some v := by rw [ht]; exact hi
  rw [List.getElem?_take, if_pos hl] at h2
  exact h2
theorem OwnAt.z {W : World} {g : Nat} {vs : List Value} (h : OwnAt W g vs) {i : Nat} (hi : i < vs.length) : W.frozen? ⟨g, i, none⟩ = false := by
  obtain ⟨l, hb, ht⟩ := h
  refine hb.z i ?_
  have := congrArg List.length ht
  rw [List.length_take] at this
  omega
theorem OwnAt.set {W : World} {g : Nat} {vs : List Value} (h : OwnAt W g vs) {i : Nat} (v : Value) (hi : i < vs.length) : OwnAt (W.setCell ⟨g, i, none⟩ v) g (vs.set i v) := by
  obtain ⟨l, hb, ht⟩ := h
  have hl := congrArg List.length ht
  rw [List.length_take] at hl
  refine ⟨_, hb.set i v (by omega), ?_⟩
  rw [List.length_set, List.take_set, ht]
theorem OwnAt.below {W W' : World} {g : Nat} {vs : List Value} (h : OwnAt W g vs) (hb : Below W.heap.size W W') : OwnAt W' g vs := by
  obtain ⟨l, h1, ht⟩ := h
  exact ⟨l, h1.below hb, ht⟩
theorem OwnAt.other {W : World} {g p : Nat} {vs : List Value} (h : OwnAt W g vs) (i : Nat) (v : Value) (hne : g ≠ p) : OwnAt (W.setCell ⟨p, i, none⟩ v) g vs := by
  obtain ⟨l, h1, ht⟩ := h
  exact ⟨l, h1.other i v hne, ht⟩
theorem OwnAt.of {W : World} {base k n : Nat} {e : TypeId} {v : Value} {vs : List Value} (h : W.ownsRow base e k v n vs) (hn : 1 ≤ n) (hl : vs.length = n * k) : ∃ g c, v = .slice (some ⟨g, 0, none⟩) n c ∧ n ≤ c ∧ c ≤ maxLen ∧ base ≤ g ∧ OwnAt W g vs := by
  have hh := h
  rcases h.2 with ⟨rfl, h0⟩ | ⟨g, cap, cur, rfl, hb, hg, hcap, hcm, hr⟩
  · omega
  · refine ⟨g, cap, rfl, hcap, hcm, hb, cur.toList, BC.of hg, ?_⟩
    rw [hl]
    exact hr.2
end Go.Proofs.Gv
