import Derived.Test.YtfhncfphphieiaaGreatMlsP
import Derived.Lib.SlTrimSet
import Derived.Shelf.Strings.SlTrimAscii
import Derived.Lib.ConvBytes
import Derived.Sort.LoopGhostIn
import Derived.RangeFuncCalls
import Derived.Shelf.Abstract
import Derived.OwnWalkIn
import Derived.TacticsInMore
import Derived.LoopNIn
import Derived.LoopIn
import Derived.Deep.RegionHeld3
set_option maxHeartbeats 2000000
set_option maxRecDepth 100000
set_option linter.unusedSimpArgs false
set_option linter.unusedVariables false
namespace Go.Proofs.Gv
open Go Go.RowKit Go.Maps
theorem bl_16 (q : Nat) (h : q ≤ 16) : bl q ≤ 5 := bl_lt (N := 5) (by omega)
theorem cPowN (q n : Nat) (hq : q ≤ 16) (hn : n ≤ 64) (W : World) :
  Calls Tryz.prog 70 #[.agg #[.bool false, .string (mg q)], .int .i64 (n : Int)] W fun e w' => e = .returned (.tuple #[.agg #[.bool false, .string (mg (q ^ n))], .int .i64 0]) ∧ Below W.heap.size W w' := by
 have := cPower (n : Int) (VN_rp (z := q) (N := 62) (by omega) (by omega)) (by omega) (by omega) (by
  rw [Int.natAbs_natCast, Int.toNat_natCast]
  exact Nat.le_trans (Nat.mul_le_mul hn (bl_16 q hq)) (by decide)) W
 rw [Int.toNat_natCast, show ((q : Int) ^ n) = ((q ^ n : Nat) : Int) by simp, Int.natAbs_natCast, show sgn ((q ^ n : Nat) : Int) = false from decide_eq_false (by omega)] at this
 exact this
def pws (q : Nat) (ds : List Nat) : List Nat := ds.map fun d => q ^ (64 - d)
theorem pws_at {q : Nat} {ds : List Nat} {i d : Nat} (h : ds[i]? = some d) : (pws q ds)[i]? = some (q ^ (64 - d)) := by unfold pws; rw [List.getElem?_map, h]; rfl
def pwN : Nat := 257
theorem pw_lt {q d : Nat} (hq : q ≤ 16) : q ^ (64 - d) < 2 ^ pwN := by
 have h1 : q ^ (64 - d) ≤ 16 ^ (64 - d) := Nat.pow_le_pow_left hq _
 have h2 : (16 : Nat) ^ (64 - d) = 2 ^ (4 * (64 - d)) := by rw [show (16 : Nat) = 2 ^ 4 from rfl, ← Nat.pow_mul]
 rw [h2] at h1
 exact Nat.lt_of_le_of_lt h1 (Nat.pow_lt_pow_right (by decide) (by unfold pwN; omega))
theorem pws_lt {q : Nat} (hq : q ≤ 16) (ds : List Nat) (hl : ds.length ≤ 1000) : (pws q ds).sum < 2 ^ (pwN + 10) := by
 have : ∀ z ∈ pws q ds, z < 2 ^ pwN := fun z hz => by
  unfold pws at hz
  obtain ⟨d, -, rfl⟩ := List.mem_map.1 hz
  exact pw_lt hq
 exact sum_lt this (by unfold pws; rw [List.length_map]; exact hl)
theorem pwN_le : pwN ≤ 1000000 ∧ pwN + 10 ≤ 1000000 := by unfold pwN; decide
end Go.Proofs.Gv
namespace Go.Proofs.Gv
theorem low_num {n d : Int} (hd : 0 < d) : DivSpec n (Nat.gcd n.natAbs d.natAbs : Nat) (Rat.divInt n d).num 0 := by
 have hg : 0 < Nat.gcd n.natAbs d.natAbs := Nat.gcd_pos_of_pos_right _ (by omega)
 refine ⟨?_, .inl ⟨by decide, by omega⟩⟩
 rw [Rat.num_divInt, Int.sign_eq_one_of_pos hd, Int.one_mul, Int.add_zero]
 have e : d.gcd n = Nat.gcd n.natAbs d.natAbs := by rw [Int.gcd, Nat.gcd_comm]
 rw [e, Int.ediv_mul_cancel]
 exact Int.ofNat_dvd_left.2 (Nat.gcd_dvd_left _ _)
theorem low_den {n d : Int} (hd : 0 < d) : DivSpec d (Nat.gcd n.natAbs d.natAbs : Nat) (Rat.divInt n d).den 0 := by
 have hg : 0 < Nat.gcd n.natAbs d.natAbs := Nat.gcd_pos_of_pos_right _ (by omega)
 refine ⟨?_, .inl ⟨by decide, by omega⟩⟩
 rw [Rat.den_divInt, if_neg (by omega), Int.add_zero]
 have e : d.gcd n = Nat.gcd n.natAbs d.natAbs := by rw [Int.gcd, Nat.gcd_comm]
 rw [e, ← Int.natCast_mul, Nat.div_mul_cancel (Nat.gcd_dvd_right _ _)]
 omega
theorem low_neg (n d : Int) : Rat.divInt (-n) (-d) = Rat.divInt n d := Rat.neg_divInt_neg n d
theorem low_self (q : Rat) : Rat.divInt q.num q.den = q := Rat.num_divInt_den q
theorem den0 (q : Rat) : (q.den : Int) ≠ 0 := by have := q.den_pos; omega
theorem q_add (a b : Rat) : Rat.divInt (a.num * b.den + b.num * a.den) (a.den * b.den) = a + b := by
 rw [← Rat.divInt_add_divInt _ _ (den0 a) (den0 b), low_self, low_self]
theorem q_quo (a b : Rat) : Rat.divInt (a.num * b.den) (a.den * b.num) = a / b := by
 rw [← Rat.divInt_mul_divInt, low_self, Rat.div_def, Rat.inv_def]
theorem q_neg_num (a : Rat) : (-a).num = -a.num := rfl
def cmpQ (a b : Rat) : Int := cmpI (a.num * b.den) (b.num * a.den)
theorem cmpQ_lt {a b : Rat} : a < b ↔ a.num * b.den < b.num * a.den := Rat.lt_iff a b
theorem cmpQ_cases (a b : Rat) : (a < b ∧ cmpQ a b = -1 ∧ cmpQ b a = 1) ∨ (a = b ∧ cmpQ a b = 0 ∧ cmpQ b a = 0) ∨ (b < a ∧ cmpQ a b = 1 ∧ cmpQ b a = -1) := by
 unfold cmpQ cmpI
 have h1 := @cmpQ_lt a b
 have h2 := @cmpQ_lt b a
 have h3 : a = b ↔ ¬ a < b ∧ ¬ b < a := by
  constructor
  ·rintro rfl; exact ⟨Rat.lt_irrefl, Rat.lt_irrefl⟩
  ·rintro ⟨h, h'⟩; exact Rat.le_antisymm (Rat.not_lt.1 h') (Rat.not_lt.1 h)
 rw [h3, h1, h2]
 split
 ·rename_i h
  rw [if_neg (by omega)]
  exact .inl ⟨h, rfl, rfl⟩
 ·split
  ·rename_i h h'; exact .inr (.inr ⟨h', rfl, rfl⟩)
  ·rename_i h h'; exact .inr (.inl ⟨⟨h, h'⟩, rfl, rfl⟩)
theorem q_addInt_num (z : Rat) (f : Int) : ((f : Rat) + z).num = f * z.den + z.num ∧ ((f : Rat) + z).den = z.den := by
 have hc : Nat.Coprime (f * z.den + z.num).natAbs z.den := by
  have h : Int.gcd (f * z.den + z.num) z.den = 1 := by
   rw [Int.add_comm, Int.gcd_add_mul_right_left]
   exact z.reduced
  exact h
 have e : (f : Rat) + z = ⟨f * z.den + z.num, z.den, z.den_nz, hc⟩ := by
  rw [Rat.mk_eq_divInt, ← q_add]
  congr 1
  ·rw [Rat.num_intCast, Rat.den_intCast]; omega
  ·rw [Rat.den_intCast]; omega
 rw [e]; exact ⟨rfl, rfl⟩
theorem q_inv_num {z : Rat} (h : 0 < z) : (z⁻¹).num = z.den ∧ ((z⁻¹).den : Int) = z.num := by
 have hn : 0 < z.num := by simpa [Rat.lt_iff] using h
 rw [Rat.num_inv, Rat.den_inv, if_neg (by omega), Int.sign_eq_one_of_pos hn]
 constructor <;> omega
theorem q_inv_lt {x y : Rat} (hx : 0 < x) (hy : 0 < y) : x⁻¹ ≤ y⁻¹ ↔ y ≤ x := by
 have h1 := q_inv_num hx
 have h2 := q_inv_num hy
 rw [Rat.le_iff, Rat.le_iff, h1.1, h1.2, h2.1, h2.2, Int.mul_comm y.num, Int.mul_comm x.num]
theorem sim_step {a b : Rat} (h0 : 0 < a) (hab : a ≤ b) (h1 : (a.floor : Rat) ≠ a) (h2 : ¬ ((a.floor + 1 : Int) : Rat) ≤ b) :
  0 ≤ a.floor ∧ (a.floor : Rat) < a ∧ b < (a.floor : Rat) + 1 ∧ 0 < (b - a.floor)⁻¹ ∧ (b - a.floor)⁻¹ ≤ (a - a.floor)⁻¹ ∧
    ((b - a.floor)⁻¹).den < b.den ∧ ((a - a.floor)⁻¹).den < a.den := by
 have hf : (a.floor : Rat) < a := Rat.lt_of_le_of_ne (Rat.floor_le a) h1
 have hb : b < (a.floor : Rat) + 1 := by
  have := Rat.not_le.1 h2
  rwa [Rat.intCast_add, Rat.intCast_one] at this
 have ha1 : a < (a.floor : Rat) + 1 := by grind
 have pa : 0 < a - a.floor := by grind
 have pb : 0 < b - a.floor := by grind
 have key : ∀ x : Rat, 0 < x - a.floor → x < (a.floor : Rat) + 1 → ((x - a.floor)⁻¹).den < x.den := by
  intro x hx hx1
  have hn := (q_inv_num hx).2
  have h3 : x - a.floor = ((-a.floor : Int) : Rat) + x := by rw [Rat.intCast_neg]; grind
  have h4 := q_addInt_num x (-a.floor)
  have h5 : x - a.floor < ((1 : Int) : Rat) := by rw [Rat.intCast_one]; grind
  rw [Rat.lt_iff, Rat.den_intCast, Rat.num_intCast, h3, h4.1, h4.2] at h5
  rw [h3, h4.1] at hn
  rw [h3]
  omega
 refine ⟨?_, hf, hb, Rat.inv_pos.2 pb, (q_inv_lt pb pa).2 (by grind), key b pb hb, key a pa ha1⟩
 rw [Rat.le_floor_iff, Rat.intCast_zero]
 exact Rat.le_of_lt h0
end Go.Proofs.Gv
namespace Go.Proofs.Gv
theorem cmpQ_add (a b c : Rat) : cmpQ (a + c) (b + c) = cmpQ a b := by
 rcases cmpQ_cases a b with ⟨h, e, _⟩ | ⟨h, e, _⟩ | ⟨h, e, _⟩ <;>
 rcases cmpQ_cases (a + c) (b + c) with ⟨h', e', _⟩ | ⟨h', e', _⟩ | ⟨h', e', _⟩ <;> rw [e, e'] <;> exfalso <;> grind
theorem cmpQ_sub (a b : Rat) : cmpI (a - b).num 0 = cmpQ a b := by
 have h0 : cmpI (a - b).num 0 = cmpQ (a - b) 0 := by
  unfold cmpQ
  rw [show (0 : Rat).den = 1 from rfl, show (0 : Rat).num = 0 from rfl, Int.zero_mul]
  congr 1
  omega
 rw [h0, ← cmpQ_add (a - b) 0 b, Rat.zero_add, show a - b + b = a by grind]
structure Qb (N : Nat) (q : Rat) : Prop where
 up : q.num.natAbs < 2 ^ N
 lo : q.den < 2 ^ N
theorem Qb.mono {N M : Nat} {q : Rat} (h : Qb N q) (hNM : N ≤ M) : Qb M q :=
 have := Nat.pow_le_pow_right (show 0 < 2 by decide) hNM
 ⟨Nat.lt_of_lt_of_le h.up this, Nat.lt_of_lt_of_le h.lo this⟩
theorem div_num_le (n d : Int) : (Rat.divInt n d).num.natAbs ≤ n.natAbs := by
 by_cases h0 : d = 0
 ·subst h0; rw [Rat.divInt_zero]; exact Nat.zero_le _
 ·rw [Rat.num_divInt]
  have hg : ((d.gcd n : Nat) : Int) ∣ d.sign * n := Int.dvd_trans (Int.gcd_dvd_right ..) (Int.dvd_mul_left ..)
  obtain ⟨c, hc⟩ := hg
  have hp : 0 < d.gcd n := Int.gcd_pos_of_ne_zero_left _ h0
  rw [hc, Int.mul_ediv_cancel_left _ (by omega)]
  have e : (d.sign * n).natAbs = n.natAbs := by rw [Int.natAbs_mul, Int.natAbs_sign_of_ne_zero h0, Nat.one_mul]
  rw [hc, Int.natAbs_mul, Int.natAbs_natCast] at e
  rw [← e]
  exact Nat.le_mul_of_pos_left _ hp
theorem div_den_le (n d : Int) : (Rat.divInt n d).den ≤ max 1 d.natAbs := by
 rw [Rat.den_divInt]
 split
 ·omega
 ·exact Nat.le_trans (Nat.div_le_self _ _) (by omega)
theorem Qb.div {N : Nat} {n d : Int} (hn : n.natAbs < 2 ^ N) (hd : d.natAbs < 2 ^ N) (h1 : 1 ≤ N) : Qb N (Rat.divInt n d) := by
 refine ⟨Nat.lt_of_le_of_lt (div_num_le n d) hn, Nat.lt_of_le_of_lt (div_den_le n d) ?_⟩
 have := Nat.pow_le_pow_right (show 0 < 2 by decide) h1
 omega
theorem q_mul_lt {x y N M : Nat} (hx : x < 2 ^ N) (hy : y < 2 ^ M) : x * y < 2 ^ (N + M) := by
 rw [Nat.pow_add]
 have h := Nat.mul_le_mul (Nat.le_sub_one_of_lt hx) (Nat.le_sub_one_of_lt hy)
 have hp := Nat.two_pow_pos N
 have hq := Nat.two_pow_pos M
 refine Nat.lt_of_le_of_lt h ?_
 exact Nat.lt_of_le_of_lt (Nat.mul_le_mul_right _ (Nat.sub_le _ _)) (Nat.mul_lt_mul_of_pos_left (by omega) hp)
theorem imul_lt {x y : Int} {N M : Nat} (hx : x.natAbs < 2 ^ N) (hy : y.natAbs < 2 ^ M) : (x * y).natAbs < 2 ^ (N + M) := by
 rw [Int.natAbs_mul]; exact q_mul_lt hx hy
theorem iadd_lt {x y : Int} {N : Nat} (hx : x.natAbs < 2 ^ N) (hy : y.natAbs < 2 ^ N) : (x + y).natAbs < 2 ^ (N + 1) := by
 rw [Nat.pow_succ]; omega
theorem Qb.num {N : Nat} {q : Rat} (h : Qb N q) : q.num.natAbs < 2 ^ N := h.up
theorem Qb.den {N : Nat} {q : Rat} (h : Qb N q) : ((q.den : Nat) : Int).natAbs < 2 ^ N := by rw [Int.natAbs_natCast]; exact h.lo
theorem Qb.add {N M : Nat} {a b : Rat} (ha : Qb N a) (hb : Qb M b) : Qb (N + M + 1) (a + b) := by
 rw [← q_add]
 exact Qb.div (iadd_lt (imul_lt ha.num hb.den) (Nat.add_comm M N ▸ imul_lt hb.num ha.den)) (Nat.lt_trans (imul_lt ha.den hb.den) (Nat.pow_lt_pow_right (by decide) (by omega))) (by omega)
theorem Qb.neg {N : Nat} {a : Rat} (ha : Qb N a) : Qb N (-a) := ⟨by rw [q_neg_num, Int.natAbs_neg]; exact ha.up, ha.lo⟩
theorem Qb.sub {N M : Nat} {a b : Rat} (ha : Qb N a) (hb : Qb M b) : Qb (N + M + 1) (a - b) := by
 rw [Rat.sub_eq_add_neg]; exact ha.add hb.neg
theorem Qb.pos {N : Nat} {a : Rat} (ha : Qb N a) : 1 ≤ N := by
 have := a.den_pos
 have h := ha.lo
 cases N with
 | zero => simp at h; omega
 | succ N => omega
theorem Qb.quo {N M : Nat} {a b : Rat} (ha : Qb N a) (hb : Qb M b) : Qb (N + M) (a / b) := by
 have := ha.pos
 rw [← q_quo]
 exact Qb.div (imul_lt ha.num hb.den) (imul_lt ha.den hb.num) (by omega)
theorem Qb.int {N : Nat} {z : Int} (h : z.natAbs < 2 ^ N) (h1 : 1 ≤ N) : Qb N (z : Rat) := by
 have := Nat.pow_le_pow_right (show 0 < 2 by decide) h1
 exact ⟨h, by rw [Rat.den_intCast]; omega⟩
theorem Qb.floor {N : Nat} {a : Rat} (ha : Qb N a) : a.floor.natAbs < 2 ^ N := by
 have h := ha.up
 rw [Rat.floor_def]
 have hp := a.den_pos
 have h1 := Int.natAbs_ediv_le_natAbs a.num a.den
 omega
end Go.Proofs.Gv
namespace Go.Proofs.Gv
open Go Go.RowKit
structure Rq (n : Bool) (s : ByteArray) (m : Bool) (t : ByteArray) (q : Rat) : Prop where
 val : Rat.divInt (iv n s) (iv m t) = q
 s1 : s.size ≤ 20000
 s2 : t.size ≤ 20000
theorem Rq.up {n m : Bool} {s t : ByteArray} {q : Rat} (h : Rq n s m t q) : Rp n s (iv n s) := ⟨rfl, Nat.le_trans h.s1 (by decide)⟩
theorem Rq.lo {n m : Bool} {s t : ByteArray} {q : Rat} (h : Rq n s m t q) : Rp m t (iv m t) := ⟨rfl, Nat.le_trans h.s2 (by decide)⟩
theorem iv_mgN (d : Nat) : iv false (mg d) = (d : Int) := by unfold iv; simp [bv_mg]
theorem mgB {x N : Nat} (h : x < 2 ^ N) (hN : N ≤ 159000) : (mg x).size ≤ 20000 :=
 Nat.le_trans (szB ((N + 7) / 8) (Nat.lt_of_lt_of_le h (Nat.pow_le_pow_right (by decide) (by omega)))) (by omega)
theorem Rq.V {q : Rat} {N : Nat} (h : Qb N q) (hN : N ≤ 159000) : Rq (sgn q.num) (mg q.num.natAbs) false (mg q.den) q :=
 ⟨by rw [iv_V, iv_mgN, low_self], mgB h.up hN, mgB h.lo hN⟩
theorem rp_num {q : Rat} {N : Nat} (h : Qb N q) (hN : N ≤ 7000000) : Rp (sgn q.num) (mg q.num.natAbs) q.num := Rp.V N h.up (by omega)
theorem rp_den {q : Rat} {N : Nat} (h : Qb N q) (hN : N ≤ 7000000) : Rp false (mg q.den) q.den :=
 ⟨iv_mgN _, Nat.le_trans (szB (N / 8 + 1) (Nat.lt_of_lt_of_le h.lo (Nat.pow_le_pow_right (by decide) (by omega)))) (by omega)⟩
theorem Rq.qb {n m : Bool} {s t : ByteArray} {q : Rat} {k : Nat} (h : Rq n s m t q) (h1 : s.size ≤ k) (h2 : t.size ≤ k) (hk : 1 ≤ k) : Qb (8 * k) q := by
 rw [← h.val]
 exact Qb.div (h.up.lt h1) (h.lo.lt h2) (by omega)
end Go.Proofs.Gv
namespace Go.Proofs.Gv
theorem Qb.step {N : Nat} {a b : Rat} (ha : Qb N a) (hb : Qb N b) (h0 : 0 < a) (hab : a ≤ b) (h1 : (a.floor : Rat) ≠ a) (h2 : ¬ ((a.floor + 1 : Int) : Rat) ≤ b) :
  Qb N (b - a.floor)⁻¹ ∧ Qb N (a - a.floor)⁻¹ := by
 obtain ⟨_, f1, f2, p1, p2, d1, d2⟩ := sim_step h0 hab h1 h2
 have key : ∀ x : Rat, 0 < x - a.floor → ((x - a.floor)⁻¹).den < x.den → Qb N x → Qb N (x - a.floor)⁻¹ := by
  intro x hx hd hq
  have hn := (q_inv_num hx).1
  have h3 : x - a.floor = ((-a.floor : Int) : Rat) + x := by rw [Rat.intCast_neg]; grind
  have h4 := (q_addInt_num x (-a.floor)).2
  have := hq.lo
  refine ⟨?_, by omega⟩
  rw [hn, h3, h4, Int.natAbs_natCast]
  exact this
 exact ⟨key b (by grind) d1 hb, key a (by grind) d2 ha⟩
end Go.Proofs.Gv
namespace Go.Proofs.Gv
theorem low_iff {n d : Int} : ((Rat.divInt n d).num = n ∧ ((Rat.divInt n d).den : Int) = d) ↔ 0 < d ∧ Nat.gcd n.natAbs d.natAbs = 1 := by
 constructor
 ·rintro ⟨h1, h2⟩
  have hp := (Rat.divInt n d).den_pos
  have hr := (Rat.divInt n d).reduced
  refine ⟨by omega, ?_⟩
  rw [h1] at hr
  rw [show d.natAbs = (Rat.divInt n d).den by omega]
  exact hr
 ·rintro ⟨h1, h2⟩
  have a := (low_num (n := n) h1).1
  have b := (low_den (n := n) h1).1
  rw [h2] at a b
  omega
theorem divInt1 (z : Int) : (Rat.divInt z 1).num = z ∧ (Rat.divInt z 1).den = 1 := by
 have := low_iff.2 (⟨by decide, by simp⟩ : 0 < (1 : Int) ∧ Nat.gcd z.natAbs (1 : Int).natAbs = 1)
 exact ⟨this.1, by omega⟩
end Go.Proofs.Gv
namespace Go.Proofs.Gv
open Go Go.RowKit
attribute [local go_sem] Oper.semAt_some
def slV (t : Option Addr × Nat × Nat) : Value := .slice t.1 t.2.1 t.2.2
theorem Nt.box {W : World} {B : Nat} {A : Option Addr} {c x L T : Nat} {t : Option Addr × Nat × Nat} (h : Nt W B A c x) (hb : Boxed W L T (slV t)) (v : Value) : Nt (W.setCell ⟨L, 0, none⟩ v) B A c x :=
 ⟨h.le, h.bd, fun hn => by
  obtain ⟨g, e, hg, hc⟩ := h.rd hn
  refine ⟨g, e, hg, fun j hj => ?_⟩
  rw [World.cell?_setCell_other _ _ _ _ (fun e2 => ?_)]
  ·exact hc j hj
  ·have eb : L = g := congrArg Addr.block e2
   have h0 := hc 0 hn
   have h1 := hb.cell
   rw [eb, h0] at h1
   unfold slV at h1
   cases h1⟩
theorem Nt.putObj {W : World} {B : Nat} {A : Option Addr} {c x l : Nat} {o o' : Obj} (h : Nt W B A c x) (hl : W.heap[l]? = some o) (ho : o.isCells = false) : Nt (W.putObj l o') B A c x :=
 ⟨h.le, h.bd, fun hn => by
  obtain ⟨g, e, hg, hc⟩ := h.rd hn
  refine ⟨g, e, hg, fun j hj => ?_⟩
  have h0 := hc j hj
  have hne : g ≠ l := fun e2 => by
   subst e2
   unfold World.cell? at h0
   simp only [hl] at h0
   cases o <;> first | (cases ho; done) | (simp at h0; done)
  rw [← h0]
  exact World.cell?_of_block (World.putObj_heap_other hne)⟩
structure KpE (bx by_ : Nat) (W W' : World) : Prop where
 size : W.heap.size ≤ W'.heap.size
 nt : ∀ {B : Nat} {A : Option Addr} {c x : Nat}, Nt W B A c x → Nt W' B A c x
 hx : ∀ {v : Value}, Boxed W bx 77 v → Boxed W' bx 77 v
 hy : ∀ {v : Value}, Boxed W by_ 77 v → Boxed W' by_ 77 v
theorem KpE.trans {bx by_ : Nat} {A B C : World} (h : KpE bx by_ A B) (k : KpE bx by_ B C) : KpE bx by_ A C :=
 ⟨Nat.le_trans h.size k.size, fun x => k.nt (h.nt x), fun x => k.hx (h.hx x), fun x => k.hy (h.hy x)⟩
theorem boxed_putObj' {W : World} {B t l : Nat} {v : Value} {o o' : Obj} (h : Boxed W B t v) (hl : W.heap[l]? = some o) (ho : o.isCells = false) : Boxed (W.putObj l o') B t v :=
 h.kept (grownBy_putObj' W l o') (fun e => by cases e; rw [show W.heap[B]? = _ from h] at hl; cases hl; cases ho)
theorem kpE_b {bx by_ : Nat} (W : World) (l : Nat) (o o' : Obj) (hl : W.heap[l]? = some o) (ho : o.isCells = false) : KpE bx by_ W (W.putObj l o') :=
 ⟨by simp, fun h => h.putObj hl ho, fun h => boxed_putObj' h hl ho, fun h => boxed_putObj' h hl ho⟩
def SgE (G : Nat) (xs : List ((Option Addr × Nat × Nat) × (Option Addr × Nat × Nat))) (W : World) : Prop :=
 ∃ pre A c u, xs = pre ++ [((A, nlen G, c), u)] ∧ Nt W W.heap.size A c G
theorem euclid1_in (n : Nat) (hn : 1 ≤ n) (l bx by_ G x0 y0 : Nat) (hne : bx ≠ by_) (A0 A1 : Option Addr) (c0 c1 : Nat) (hG : Nat.gcd x0 y0 = G) (hx0 : nlen x0 ≤ 10000000) (hy0 : nlen y0 ≤ 10000000)
  (J : List ((Option Addr × Nat × Nat) × (Option Addr × Nat × Nat)) → World → Prop) (hJ : ∀ pre A B, J pre A → Own2 (fun k => k = bx ∨ k = by_) A B → J pre B)
  (hY : ∀ pre p W1, J pre W1 → True → YieldAt Fence.wide (n - 1) Tryz.prog l #[slV p.1, slV p.2] W1 fun e W' => e = .returned (.bool true) ∧ J (pre ++ [p]) W' ∧ KpE bx by_ W1 W')
  (W : World) (hbx : Boxed W bx 77 (.slice A0 (nlen x0) c0)) (hby : Boxed W by_ 77 (.slice A1 (nlen y0) c1)) (hnx : Nt W W.heap.size A0 c0 x0) (hny : Nt W W.heap.size A1 c1 y0) (h0 : J [] W) :
  CallsIn Fence.wide n Tryz.prog 125 #[.func (.yield l) #[] #[], .pointer (some ⟨bx, 0, none⟩), .pointer (some ⟨by_, 0, none⟩)] W fun e W' => (∃ v, e = .returned v) ∧ ∃ xs, SgE G xs W' ∧ J xs W' := by
 refine callsIn_of_wp Tryz.func125 rfl trivial ?_ rfl
 simp only [Tryz.ntmps125, List.size_toArray, List.length_cons, List.length_nil, Nat.reduceAdd, Nat.reduceSub, Array.replicate_succ, Array.replicate_zero, List.push_toArray, List.append_toArray, List.nil_append, List.cons_append]
 gi_wp2
 gi_loopg [] (y0 + 1) (fun gg wr => ∃ pre x y A c A' c', y + 1 ≤ gg ∧ J pre wr ∧ Boxed wr bx 77 (.slice A (nlen x) c) ∧ Boxed wr by_ 77 (.slice A' (nlen y) c') ∧ Nt wr wr.heap.size A c x ∧ Nt wr wr.heap.size A' c' y ∧ Nat.gcd x y = G ∧ nlen x ≤ 10000000 ∧ nlen y ≤ 10000000)
 case atStart => exact ⟨[], x0, y0, A0, c0, A1, c1, Nat.le_refl _, h0, hbx, hby, hnx, hny, hG, hx0, hy0⟩
 case round =>
  obtain ⟨pre, x, y, A, c, A', c', hm, hJr, hxr, hyr, hnxr, hnyr, hGr, hxl, hyl⟩ := hrel
  have cx := hxr.cell
  have cy := hyr.cell
  obtain ⟨fn, tmps, assign, body, hy, hR⟩ := hY pre ((A, nlen x, c), (A', nlen y, c')) wr hJr trivial
  unfold slV at hy
  have HR := Lib.hid hR
  have HX := Lib.hid hxr
  have HYb := Lib.hid hyr
  have HNX := Lib.hid hnxr
  have HNY := Lib.hid hnyr
  clear hxr hyr hnxr hnyr hR hY hJr
  gi_wp2
  refine HR.out.mono ?_
  rintro e W3 ⟨rfl, hJ3, hk3⟩
  have HX3 := Lib.hid (hk3.hx HX.out)
  have HY3 := Lib.hid (hk3.hy HYb.out)
  have HNX3 := Lib.hid ((hk3.nt HNX.out).more hk3.size)
  have HNY3 := Lib.hid ((hk3.nt HNY.out).more hk3.size)
  have HJ3 := Lib.hid hJ3
  have dx := HX3.out.cell
  have dy := HY3.out.cell
  clear hJ3 hk3 cx cy hy HR HX HYb HNX HNY
  have HG := Lib.hid hGr
  clear hGr
  by_cases hy0' : y = 0
  ·have hb2 : decide (0 < nlen y) = false := by rw [hy0', nlen_zero]; rfl
   have HZ := Lib.hid hy0'
   clear hy0'
   gi_wp2
   refine bodyPost_end (results_none rfl _ _ _) rfl ?_
   have hg := HG.out
   rw [HZ.out, Nat.gcd_zero_right] at hg
   subst hg
   exact ⟨⟨_, rfl⟩, _, ⟨pre, A, c, _, rfl, HNX3.out⟩, HJ3.out⟩
  ·have hyp : 0 < y := by omega
   have hb2 : 0 < nlen y := by
    rcases Nat.eq_zero_or_pos (nlen y) with h | h
    ·exact absurd (nlen_eq_zero.1 h) hy0'
    ·exact h
   have hql : nlen (x % y) ≤ nlen y := nlen_mono (Nat.le_of_lt (Nat.mod_lt x hyp))
   have HM := Lib.hid (Nat.mod_lt x hyp)
   have HD := Lib.hid (divide_any A A' c c' x y W3 HNX3.out HNY3.out hxl hyp)
   clear hy0' hyp
   gi_wp2
   refine ⟨trivial, callsIn_wide.2 ?_⟩
   refine HD.out.mono ?_
   rintro e W4 ⟨A4, c4, A5, c5, rfl, hq, hr, hbl⟩
   have HX4 : Hid (Boxed W4 bx 77 (.slice A (nlen x) c)) := Lib.hid ((hbl.block _ HX3.out.lt).trans HX3.out)
   have HY4 : Hid (Boxed W4 by_ 77 (.slice A' (nlen y) c')) := Lib.hid ((hbl.block _ HY3.out.lt).trans HY3.out)
   have HNY4 := Lib.hid (HNY3.out.next hbl)
   have HR4 := Lib.hid hr
   have HB4 := Lib.hid hbl
   have e0 := HX4.out.cell
   have e1 := HY4.out.cell
   have e2 := HX4.out.frozen
   have e3 := HY4.out.frozen
   have hne' := Ne.symm hne
   clear hq hr hbl dx dy HD
   gi_wp2
   gi_roundg (y)
   case rel =>
    have hn1 : ∀ {t : Value}, Boxed (W4.setCell ⟨bx, 0, none⟩ t) by_ 77 (.slice A' (nlen y) c') := fun {t} => HY4.out.other (Ne.symm hne) _
    have hx1 : Boxed (W4.setCell ⟨bx, 0, none⟩ (.slice A' (nlen y) c')) bx 77 (.slice A' (nlen y) c') := HX4.out.set _
    refine ⟨_, y, x % y, A', c', A5, c5, HM.out, hJ _ _ _ HJ3.out ((((Own2.refl _ _).below HB4.out).setCell (.inl rfl) _).setCell (.inr rfl) _), hx1.other hne _, hn1.set _, ?_, ?_, by rw [Nat.gcd_comm, ← HG.out, Nat.gcd_comm x y, Nat.gcd_rec y x, Nat.gcd_comm], hyl, by omega⟩
    ·exact (((HNY4.out.box (t := (A, nlen x, c)) HX4.out _).box (t := (A', nlen y, c')) hn1 _).more (by simp))
    ·exact (((HR4.out.box (t := (A, nlen x, c)) HX4.out _).box (t := (A', nlen y, c')) hn1 _).more (by simp))
   case measure => omega
theorem euclid_any (v u : Value) (w : World) (h : ∃ A n c, v = .slice A n c) (h' : ∃ A n c, u = .slice A n c) :
  Calls Tryz.prog 115 #[v, u] w fun e w' => e = .returned (.func (.func 125) #[] #[.pointer (some ⟨w.heap.size, 0, none⟩), .pointer (some ⟨w.heap.size + 1, 0, none⟩)]) ∧ w' = (w.alloc (.cells #[v] 77)).alloc (.cells #[u] 77) := by
 obtain ⟨A, n, c, rfl⟩ := h
 obtain ⟨A', n', c', rfl⟩ := h'
 go_enter Tryz.func115, Tryz.ntmps115
 go_wp2
 go_ret
 exact ⟨rfl, rfl⟩
def lastE (l : List ((Option Addr × Nat × Nat) × (Option Addr × Nat × Nat))) : Option Addr × Nat × Nat := match l.getLast? with | some p => p.1 | none => (none, 0, 0)
theorem lastE_snoc (l : List ((Option Addr × Nat × Nat) × (Option Addr × Nat × Nat))) (p : (Option Addr × Nat × Nat) × (Option Addr × Nat × Nat)) : lastE (l ++ [p]) = p.1 := by simp [lastE]
structure IE (w : World) (R L : Nat) (l : List ((Option Addr × Nat × Nat) × (Option Addr × Nat × Nat))) (W : World) : Prop where
 last : Boxed W L 77 (slV (lastE l))
 res : W.heap[R]? = some (.cells #[.bool false, .string ⟨#[]⟩] 36 (0, 0))
 below : Below w.heap.size w W
theorem belowP {B l : Nat} {w W : World} {o : Obj} (h : Below B w W) (hl : B ≤ l) : Below B w (W.putObj l o) :=
 h.trans ⟨rfl, rfl, rfl, by simp, fun k hk => World.putObj_heap_other (by omega)⟩
theorem Gcd_in (n : Nat) (hn : 3 ≤ n) (na nb : Bool) (sa sb : ByteArray) (w : World) (ha : sa.size ≤ 1000000) (hb : sb.size ≤ 1000000) :
  CallsIn Fence.wide n Tryz.prog 103 #[.agg #[.bool na, .string sa], .agg #[.bool nb, .string sb]] w (RetI w (Nat.gcd (bv sa.data.toList) (bv sb.data.toList) : Nat)) := by
 have h1 : 1 ≤ n := by omega
 have L1 := Lib.hid (nlen_bv (s := sa))
 have L2 := Lib.hid (nlen_bv (s := sb))
 refine callsIn_of_wp_marks Tryz.func103 rfl trivial ?_ rfl
 simp only [Tryz.ntmps103, List.size_toArray, List.length_cons, List.length_nil, Nat.reduceAdd, Nat.reduceSub, Array.replicate_succ, Array.replicate_zero, List.push_toArray, List.append_toArray, List.nil_append, List.cons_append]
 gi_wp2
 obtain ⟨W, hW⟩ : ∃ W, (((w.alloc (.cells #[.bool na, .string sa] 36)).alloc (.cells #[.bool nb, .string sb] 36)).alloc (.cells #[.bool false, .string ⟨#[]⟩] 36)).alloc (.cells #[.slice none 0 0] 77) = W := ⟨_, rfl⟩
 have HO := Lib.hid (Own.four w (.cells #[.bool na, .string sa] 36) (.cells #[.bool nb, .string sb] 36) (.cells #[.bool false, .string ⟨#[]⟩] 36) (.cells #[.slice none 0 0] 77))
 rw [hW] at HO ⊢
 clear hW
 obtain ⟨a0, a1, a2, a3, a4⟩ := HO.out.blk 0 w.heap.size rfl rfl
 obtain ⟨b0, b1, b2, b3, b4⟩ := HO.out.blk 1 (w.heap.size + 1) rfl rfl
 refine wpIn_wide.2 ?_
 go_region_held3 (fun w' => w'.cell? ⟨w.heap.size, 0, none⟩ = some (.bool na) ∧ w'.cell? ⟨w.heap.size, 1, none⟩ = some (.string sa) ∧ w'.cell? ⟨w.heap.size + 1, 0, none⟩ = some (.bool nb) ∧ w'.cell? ⟨w.heap.size + 1, 1, none⟩ = some (.string sb)) (first | (exact ⟨q0, q1, q2, q3⟩) | go_keep) (first
  | (go_at_call_of 73 (Value.agg #[.bool na, .string sa]); refine (digits_any na sa _ (by omega)).mono ?_; rintro e w1 ⟨A, c, rfl, hn, hb⟩; have HO1 := Lib.hid (HO.out.next hb); obtain ⟨k0, k1, k2, k3, k4⟩ := HO1.out.blk 0 w.heap.size rfl rfl; obtain ⟨l0, l1, l2, l3, l4⟩ := HO1.out.blk 1 (w.heap.size + 1) rfl rfl; have Hn1 := Lib.hid hn; clear hb hn)
  | (go_at_call_of 73 (Value.agg #[.bool nb, .string sb]); refine (digits_any nb sb _ (by omega)).mono ?_; rintro e w2 ⟨A', c', rfl, hn, hb⟩; have HO2 := Lib.hid (HO1.out.next hb); obtain ⟨m0, m1, m2, m3, m4⟩ := HO2.out.blk 0 w.heap.size rfl rfl; obtain ⟨n0, n1, n2, n3, n4⟩ := HO2.out.blk 1 (w.heap.size + 1) rfl rfl; have Hn2 := Lib.hid hn; have Hn3 := Lib.hid (Hn1.out.next hb); clear hb hn)
  | (go_at_call 115; refine (euclid_any _ _ _ ⟨_, _, _, rfl⟩ ⟨_, _, _, rfl⟩).mono ?_; rintro e w3 ⟨rfl, hw3⟩; have HO3 := Lib.hid (HO2.out.next (show Below w2.heap.size w2 w3 from by rw [hw3]; exact ((Below.refl _ _).alloc (Nat.le_refl _) _).alloc (by simp) _)); obtain ⟨q0, q1, -, -, -⟩ := HO3.out.blk 0 w.heap.size rfl rfl; obtain ⟨q2, q3, -, -, -⟩ := HO3.out.blk 1 (w.heap.size + 1) rfl rfl; have HW3 := Lib.hid hw3; clear hw3))
 have hw3 := HW3.out
 have hx3 : Boxed w3 w2.heap.size 77 (.slice A (nlen (bv sa.data.toList)) c) := by rw [hw3]; exact (Boxed.new _ _ _).alloc _
 have hy3 : Boxed w3 (w2.heap.size + 1) 77 (.slice A' (nlen (bv sb.data.toList)) c') := by rw [hw3]; have := Boxed.new (w2.alloc (.cells #[.slice A (nlen (bv sa.data.toList)) c] 77)) 77 (.slice A' (nlen (bv sb.data.toList)) c'); rwa [World.size_alloc] at this
 have hs3 : w3.heap.size = w2.heap.size + 2 := by rw [hw3]; simp
 have hb23 : Below w2.heap.size w2 w3 := by rw [hw3]; exact ((Below.refl _ _).alloc (Nat.le_refl _) _).alloc (by simp) _
 have hnx := Hn3.out.next hb23
 have hny := Hn2.out.next hb23
 have h4 : w.heap.size + 1 + 1 + 1 < w2.heap.size := (HO2.out.blk1 3 (w.heap.size + 1 + 1 + 1) rfl rfl).2.2
 clear hw3 HW3 a0 a1 a2 a3 a4 b0 b1 b2 b3 b4 k0 k1 k2 k3 k4 l0 l1 l2 l3 l4 m0 m1 m2 m3 m4 n0 n1 n2 n3 n4 q0 q1 q2 q3
 obtain ⟨x, hx⟩ : ∃ x, bv sa.data.toList = x := ⟨_, rfl⟩
 obtain ⟨y, hy⟩ : ∃ y, bv sb.data.toList = y := ⟨_, rfl⟩
 have hxl : nlen x ≤ 10000000 := by have := L1.out; rw [hx] at this; omega
 have hyl : nlen y ≤ 10000000 := by have := L2.out; rw [hy] at this; omega
 rw [hx] at hx3 hnx ⊢
 rw [hy] at hy3 hny ⊢
 have HXE := Lib.hid hx
 have HYE := Lib.hid hy
 clear hx hy L1 L2
 obtain ⟨bx, hbx⟩ : ∃ bx, w2.heap.size = bx := ⟨_, rfl⟩
 rw [hbx] at hx3 hy3 hs3 h4 ⊢
 have hB3 := Lib.hid HO3.out.2
 have hR3 := Lib.hid (HO3.out.1 2 _ rfl)
 have hL3 := Lib.hid (HO3.out.1 3 _ rfl)
 clear hbx HO HO1 HO2 HO3 Hn1 Hn2 Hn3 hb23
 gi_wp2
 refine wpIn_range_own rfl h1 (gf := 125) (lb := #[.pointer (some ⟨bx, 0, none⟩), .pointer (some ⟨bx + 1, 0, none⟩)]) rfl trivial (enters_of Tryz.func125 (by kernel_rfl) rfl)
  (encs := fun p : (Option Addr × Nat × Nat) × (Option Addr × Nat × Nat) => #[slV p.1, slV p.2]) (X := fun k => k = bx ∨ k = bx + 1) (Kp := KpE bx (bx + 1)) (Sm := fun _ _ => True) (S := SgE (Nat.gcd x y))
  ?gives (by rintro k (rfl | rfl) <;> omega) KpE.trans (fun _ => rfl) (fun W l o o' _ hl ho _ => kpE_b W l o o' hl ho)
  (IE w (w.heap.size + 2) (w.heap.size + 3)) ?hI ?hIo ?hSo (fun _ _ _ _ _ _ _ _ _ => trivial) ⟨hL3.out, hR3.out, hB3.out⟩
  (fun p => { tmps := #[.agg #[.bool na, .string sa], .agg #[.bool nb, .string sb], .pointer (some ⟨w.heap.size, 0, none⟩), .pointer (some ⟨w.heap.size + 1, 0, none⟩), .pointer (some ⟨w.heap.size + 1 + 1, 0, none⟩), .pointer (some ⟨w.heap.size + 1 + 1 + 1, 0, none⟩), slV p.1, .agg #[.bool na, .string sa], .slice A (nlen x) c, .agg #[.bool nb, .string sb], .slice A' (nlen y) c', .func (.func 125) #[] #[.pointer (some ⟨bx, 0, none⟩), .pointer (some ⟨bx + 1, 0, none⟩)], slV p.1, slV p.2, undef, undef, undef], defers := [] }) ?assign ?body ?done
 case gives =>
  intro l J W1 hb1 hJ hY hJ0
  exact euclid1_in (n - 1) (by omega) l bx (bx + 1) (Nat.gcd x y) x y (by omega) A A' c c' rfl hxl hyl J hJ hY W1 ((hb1.block _ hx3.lt).trans hx3) ((hb1.block _ hy3.lt).trans hy3) (hnx.next hb1) (hny.next hb1) hJ0
 case hI =>
  intro pre U V h hUV
  have hl : w.heap.size + 3 < U.heap.size := h.last.lt
  exact ⟨(hUV.same _ hl (by omega)).trans h.last, (hUV.same _ (by omega) (by omega)).trans h.res, h.below.trans ⟨hUV.os, hUV.tape, hUV.output, hUV.size, fun k hk => hUV.same k (by omega) (by omega)⟩⟩
 case hIo =>
  intro pre U l o o' h hl hlo ho
  exact ⟨boxed_putObj' h.last hlo ho, (World.putObj_heap_other (by omega)).trans h.res, belowP h.below (by omega)⟩
 case hSo =>
  rintro pre U l o o' ⟨p, A2, c2, u, rfl, hnt⟩ hl hlo ho
  exact ⟨p, A2, c2, u, rfl, by have := hnt.putObj (o' := o') hlo ho; rwa [World.putObj_size]⟩
 case assign =>
  intro l p U K hK
  gi_wp2
  exact hK
 case body =>
  rintro l pre ⟨⟨pa, pn, pc⟩, u⟩ U hi -
  have hc : U.cell? ⟨w.heap.size + 1 + 1 + 1, 0, none⟩ = some (slV (lastE pre)) := hi.last.cell
  have hf : U.frozen? ⟨w.heap.size + 1 + 1 + 1, 0, none⟩ = false := hi.last.frozen
  have HI := Lib.hid hi
  clear hi
  unfold slV at hc ⊢
  gi_wp2
  refine ⟨⟨by simp [World.setCell], fun k o hk ho hoc => ?_⟩, ⟨by simp [World.setCell], fun h => h.box HI.out.last _, fun h => h.other (by omega) _, fun h => h.other (by omega) _⟩, ⟨?_, ?_, ?_⟩⟩
  ·rw [Below.heap_setCell _ _ _ _ (by show k ≠ w.heap.size + 3; omega)]; exact ho
  ·rw [lastE_snoc]; exact HI.out.last.set _
  ·exact (Below.heap_setCell _ _ _ _ (by show w.heap.size + 2 ≠ w.heap.size + 3; omega)).trans HI.out.res
  ·exact HI.out.below.setCell (p := ⟨w.heap.size + 3, 0, none⟩) (by show w.heap.size ≤ w.heap.size + 3; omega) _
 case done =>
  rintro D xs U hD ⟨pre, A2, c2, u, rfl, hnt⟩ hi hK
  have hl := hi.last
  rw [lastE_snoc] at hl
  have hc : U.cell? ⟨w.heap.size + 1 + 1 + 1, 0, none⟩ = some (.slice A2 (nlen (x.gcd y)) c2) := hl.cell
  have hgl : nlen (x.gcd y) ≤ 10000000 := by
   rcases Nat.eq_zero_or_pos x with h | h
   ·rw [h, Nat.gcd_zero_left]; exact hyl
   ·exact Nat.le_trans (nlen_mono (Nat.gcd_le_left y h)) hxl
  have HN := Lib.hid (number_nt false A2 c2 _ U hnt hgl)
  have hr := hi.res
  have HR := Lib.hid hr
  have HB := Lib.hid hi.below
  have HK := Lib.hid hK
  have hsz : w.heap.size + 2 < U.heap.size := (Array.getElem?_eq_some_iff.1 hr).1
  have hDs : D < U.heap.size := (Array.getElem?_eq_some_iff.1 hK).1
  clear hl hi hnt hgl hr hK
  gi_wp2
  refine ⟨trivial, callsIn_wide.2 ?_⟩
  refine HN.out.mono ?_
  rintro e W5 ⟨rfl, hb5⟩
  have HR5 := Lib.hid ((hb5.block _ hsz).trans HR.out)
  obtain ⟨r0, r1, r2, r3, r4⟩ := blk_facts HR5.out
  have HB5 := Lib.hid (HB.out.trans (hb5.mono HB.out.size))
  have HK5 := Lib.hid ((hb5.block _ hDs).trans HK.out)
  clear hb5 hc
  gi_wp2
  obtain ⟨W6, hW6⟩ : ∃ W6, (W5.setCell ⟨w.heap.size + 1 + 1, 0, none⟩ (.bool (sg false (x.gcd y)))).setCell ⟨w.heap.size + 1 + 1, 1, none⟩ (.string (mg (x.gcd y))) = W6 := ⟨_, rfl⟩
  have hDR : D ≠ w.heap.size + 1 + 1 := by omega
  have k6 : W6.heap[D]? = some (.deferred (some [])) := by rw [← hW6]; exact (Below.heap_setCell _ _ _ _ hDR).trans ((Below.heap_setCell _ _ _ _ hDR).trans HK5.out)
  have q0 : W6.cell? ⟨w.heap.size + 1 + 1, 1, none⟩ = some (.string (mg (x.gcd y))) := by
   rw [← hW6]; exact World.cell?_setCell_same _ _ _ ((World.cell?_setCell_other _ _ _ _ (fun e => by have := congrArg Addr.off e; simp at this)).trans r1)
  have q1 : W6.cell? ⟨w.heap.size + 1 + 1, 0, none⟩ = some (.bool (sg false (x.gcd y))) := by
   rw [← hW6]; exact (World.cell?_setCell_other _ _ _ _ (fun e => by have := congrArg Addr.off e; simp at this)).trans (World.cell?_setCell_same _ _ _ r0)
  have b6 : Below w.heap.size w W6 := by
   rw [← hW6]; exact (HB5.out.setCell (p := ⟨w.heap.size + 1 + 1, 0, none⟩) (by show w.heap.size ≤ w.heap.size + 1 + 1; omega) _).setCell (p := ⟨w.heap.size + 1 + 1, 1, none⟩) (by show w.heap.size ≤ w.heap.size + 1 + 1; omega) _
  rw [hW6]
  clear hW6
  have p0 : ∀ o, (W6.putObj D (.deferred none)).cell? ⟨w.heap.size + 1 + 1, o, none⟩ = W6.cell? ⟨w.heap.size + 1 + 1, o, none⟩ := fun o => World.cell?_of_block (World.putObj_heap_other (Ne.symm hDR))
  have p1 := (p0 0).trans q1
  have p2 := (p0 1).trans q0
  refine ⟨by simp, .inl ⟨_, _, rfl, run_takeDeferred k6, ?_⟩⟩
  refine ⟨.agg #[.bool (sg false (x.gcd y)), .string (mg (x.gcd y))], by simp [results, Tryz.results103, go_sem, p1, p2], ?_⟩
  rw [HXE.out, HYE.out]
  exact RetInt.toI ⟨rfl, belowP b6 (by omega)⟩ rfl
theorem Gcd_any (na nb : Bool) (sa sb : ByteArray) (w : World) (ha : sa.size ≤ 1000000) (hb : sb.size ≤ 1000000) :
  Calls Tryz.prog 103 #[.agg #[.bool na, .string sa], .agg #[.bool nb, .string sb]] w (RetI w (Nat.gcd (bv sa.data.toList) (bv sb.data.toList) : Nat)) :=
 callsIn_wide.1 (Gcd_in 3 (Nat.le_refl _) na nb sa sb w ha hb)
end Go.Proofs.Gv
