/- Rational numbers: the plain laws, over the Rat of Lean's core; the simplest number between two. -/
import Derived.Test.YtamempcabmlodaaDoorIntCP
import Derived.Test.YtamempcabmlodaaDoorIntDP
import Derived.Test.YtamempcabmlodaaDoorAddP
import Derived.Laws.StructEq
set_option linter.unusedSimpArgs false
set_option linter.unusedVariables false
namespace Go.Proofs.Gv
/-- n / d in lowest terms, for a positive d -/
theorem low_num {n d : Int} (hd : 0 < d) : DivSpec n (Nat.gcd n.natAbs d.natAbs : Nat) (Rat.divInt n d).num 0 := by
  have hg : 0 < Nat.gcd n.natAbs d.natAbs := Nat.gcd_pos_of_pos_right _ (by omega)
  refine ⟨?_, .inl ⟨by decide, by omega⟩⟩
  rw [Rat.num_divInt, Int.sign_eq_one_of_pos hd, Int.one_mul, Int.add_zero]
  have e : d.gcd n = Nat.gcd n.natAbs d.natAbs := by rw [Int.gcd, Nat.gcd_comm]
  rw [e, Int.ediv_mul_cancel]
  exact Int.ofNat_dvd_left.2 (Nat.gcd_dvd_left _ _)
theorem low_den {n d : Int} (hd : 0 < d) : DivSpec d (Nat.gcd n.natAbs d.natAbs : Nat) (Rat.divInt n d).den 0 := by
  have hg : 0 < Nat.gcd n.natAbs d.natAbs := Nat.gcd_pos_of_pos_right _ (by omega)
  refine ⟨?_, .inl ⟨by decide, by omega⟩⟩
  rw [Rat.den_divInt, if_neg (by omega), Int.add_zero]
  have e : d.gcd n = Nat.gcd n.natAbs d.natAbs := by rw [Int.gcd, Nat.gcd_comm]
  rw [e, ← Int.natCast_mul, Nat.div_mul_cancel (Nat.gcd_dvd_right _ _)]
  omega
theorem low_neg (n d : Int) : Rat.divInt (-n) (-d) = Rat.divInt n d := Rat.neg_divInt_neg n d
theorem low_self (q : Rat) : Rat.divInt q.num q.den = q := Rat.num_divInt_den q
theorem den0 (q : Rat) : (q.den : Int) ≠ 0 := by have := q.den_pos; omega
theorem q_add (a b : Rat) : Rat.divInt (a.num * b.den + b.num * a.den) (a.den * b.den) = a + b := by
  rw [← Rat.divInt_add_divInt _ _ (den0 a) (den0 b), low_self, low_self]
theorem q_sub (a b : Rat) : Rat.divInt (a.num * b.den - b.num * a.den) (a.den * b.den) = a - b := by
  rw [← Rat.divInt_sub_divInt _ _ (den0 a) (den0 b), low_self, low_self]
theorem q_mul (a b : Rat) : Rat.divInt (a.num * b.num) (a.den * b.den) = a * b := by
  rw [← Rat.divInt_mul_divInt, low_self, low_self]
theorem q_quo (a b : Rat) : Rat.divInt (a.num * b.den) (a.den * b.num) = a / b := by
  rw [← Rat.divInt_mul_divInt, low_self, Rat.div_def, Rat.inv_def]
theorem q_neg_num (a : Rat) : (-a).num = -a.num := rfl
theorem q_neg_den (a : Rat) : (-a).den = a.den := rfl
/-- how two numbers compare -/
def cmpQ (a b : Rat) : Int := cmpI (a.num * b.den) (b.num * a.den)
theorem cmpQ_lt {a b : Rat} : a < b ↔ a.num * b.den < b.num * a.den := Rat.lt_iff a b
theorem cmpQ_cases (a b : Rat) : (a < b ∧ cmpQ a b = -1 ∧ cmpQ b a = 1) ∨ (a = b ∧ cmpQ a b = 0 ∧ cmpQ b a = 0) ∨ (b < a ∧ cmpQ a b = 1 ∧ cmpQ b a = -1) := by
  unfold cmpQ cmpI
  have h1 := @cmpQ_lt a b
  have h2 := @cmpQ_lt b a
  have h3 : a = b ↔ ¬ a < b ∧ ¬ b < a := by
    constructor
    · rintro rfl; exact ⟨Rat.lt_irrefl, Rat.lt_irrefl⟩
    · rintro ⟨h, h'⟩; exact Rat.le_antisymm (Rat.not_lt.1 h') (Rat.not_lt.1 h)
  rw [h3, h1, h2]
  split
  · rename_i h
    rw [if_neg (by omega)]
    exact .inl ⟨h, rfl, rfl⟩
  · split
    · rename_i h h'; exact .inr (.inr ⟨h', rfl, rfl⟩)
    · rename_i h h'; exact .inr (.inl ⟨⟨h, h'⟩, rfl, rfl⟩)
theorem q_floor (a : Rat) : DivSpec a.num a.den a.floor (a.num % a.den) := by
  rw [Rat.floor_def]
  have := a.den_pos
  have e := Int.mul_ediv_add_emod a.num a.den
  refine ⟨?_, .inl ⟨Int.emod_nonneg _ (by omega), Int.emod_lt_of_pos _ (by omega)⟩⟩
  rw [Int.mul_comm]; exact e.symm
theorem q_addInt_num (z : Rat) (f : Int) : ((f : Rat) + z).num = f * z.den + z.num ∧ ((f : Rat) + z).den = z.den := by
  have hc : Nat.Coprime (f * z.den + z.num).natAbs z.den := by
    have h : Int.gcd (f * z.den + z.num) z.den = 1 := by
      rw [Int.add_comm, Int.gcd_add_mul_right_left]
      exact z.reduced
    exact h
  have e : (f : Rat) + z = ⟨f * z.den + z.num, z.den, z.den_nz, hc⟩ := by
    rw [Rat.mk_eq_divInt, ← q_add]
    congr 1
    · rw [Rat.num_intCast, Rat.den_intCast]; omega
    · rw [Rat.den_intCast]; omega
  rw [e]; exact ⟨rfl, rfl⟩
theorem q_inv_num {z : Rat} (h : 0 < z) : (z⁻¹).num = z.den ∧ ((z⁻¹).den : Int) = z.num := by
  have hn : 0 < z.num := by simpa [Rat.lt_iff] using h
  rw [Rat.num_inv, Rat.den_inv, if_neg (by omega), Int.sign_eq_one_of_pos hn]
  constructor <;> omega
theorem q_inv_lt {x y : Rat} (hx : 0 < x) (hy : 0 < y) : x⁻¹ ≤ y⁻¹ ↔ y ≤ x := by
  have h1 := q_inv_num hx
  have h2 := q_inv_num hy
  rw [Rat.le_iff, Rat.le_iff, h1.1, h1.2, h2.1, h2.2, Int.mul_comm y.num, Int.mul_comm x.num]

/-- the simplest number from a to b, both positive -/
def simF : Nat → Rat → Rat → Rat
  | 0, a, _ => a
  | k + 1, a, b =>
    if (a.floor : Rat) = a then a
    else if ((a.floor + 1 : Int) : Rat) ≤ b then ((a.floor + 1 : Int) : Rat)
    else (a.floor : Rat) + (simF k (b - a.floor)⁻¹ (a - a.floor)⁻¹)⁻¹

/-- what holds of the bounds where neither is reached -/
theorem sim_step {a b : Rat} (h0 : 0 < a) (hab : a ≤ b) (h1 : (a.floor : Rat) ≠ a) (h2 : ¬ ((a.floor + 1 : Int) : Rat) ≤ b) :
    0 ≤ a.floor ∧ (a.floor : Rat) < a ∧ b < (a.floor : Rat) + 1 ∧ 0 < (b - a.floor)⁻¹ ∧ (b - a.floor)⁻¹ ≤ (a - a.floor)⁻¹ ∧
      ((b - a.floor)⁻¹).den < b.den ∧ ((a - a.floor)⁻¹).den < a.den := by
  have hf : (a.floor : Rat) < a := Rat.lt_of_le_of_ne (Rat.floor_le a) h1
  have hb : b < (a.floor : Rat) + 1 := by
    have := Rat.not_le.1 h2
    rwa [Rat.intCast_add, Rat.intCast_one] at this
  have ha1 : a < (a.floor : Rat) + 1 := by grind
  have pa : 0 < a - a.floor := by grind
  have pb : 0 < b - a.floor := by grind
  have key : ∀ x : Rat, 0 < x - a.floor → x < (a.floor : Rat) + 1 → ((x - a.floor)⁻¹).den < x.den := by
    intro x hx hx1
    have hn := (q_inv_num hx).2
    have h3 : x - a.floor = ((-a.floor : Int) : Rat) + x := by rw [Rat.intCast_neg]; grind
    have h4 := q_addInt_num x (-a.floor)
    have h5 : x - a.floor < ((1 : Int) : Rat) := by rw [Rat.intCast_one]; grind
    rw [Rat.lt_iff, Rat.den_intCast, Rat.num_intCast, h3, h4.1, h4.2] at h5
    rw [h3, h4.1] at hn
    rw [h3]
    omega
  refine ⟨?_, hf, hb, Rat.inv_pos.2 pb, (q_inv_lt pb pa).2 (by grind), key b pb hb, key a pa ha1⟩
  rw [Rat.le_floor_iff, Rat.intCast_zero]
  exact Rat.le_of_lt h0

theorem q_den1 {x : Rat} (h : x.den = 1) : x = (x.num : Rat) := by
  rw [Rat.eq_iff_mul_eq_mul, Rat.num_intCast, Rat.den_intCast, h]
/-- a number from an integer on has at least its numerator -/
theorem q_num_ge {x : Rat} {c f : Int} (hx : ((c : Int) : Rat) < x) (h0 : 0 ≤ c) (hf : f = c + 1) : f ≤ x.num := by
  rw [Rat.lt_iff, Rat.num_intCast, Rat.den_intCast] at hx
  have := x.den_pos
  have h : c * 1 ≤ c * x.den := Int.mul_le_mul_of_nonneg_left (by omega) h0
  omega
theorem sim_spec : ∀ (k : Nat) (a b : Rat), 0 < a → a ≤ b → a.den + b.den ≤ k →
    a ≤ simF k a b ∧ simF k a b ≤ b ∧ (∀ x, a ≤ x → x ≤ b → (simF k a b).num ≤ x.num ∧ (simF k a b).den ≤ x.den) ∧
      ((simF k a b).den = 1 → ¬ a ≤ simF k a b - 1) := by
  intro k
  induction k with
  | zero => intro a b h0 hab hk; have := a.den_pos; omega
  | succ k ih =>
    intro a b h0 hab hk
    unfold simF
    by_cases h1 : (a.floor : Rat) = a
    · rw [if_pos h1]
      refine ⟨Rat.le_refl, hab, ?_, fun _ => by grind⟩
      intro x hx hxb
      have hd : a.den = 1 := by rw [← h1]; rfl
      have hp := x.den_pos
      refine ⟨?_, by omega⟩
      rw [Rat.le_iff, hd] at hx
      have hn : 0 < a.num := by simpa [Rat.lt_iff] using h0
      have h : a.num * 1 ≤ a.num * x.den := Int.mul_le_mul_of_nonneg_left (by omega) (by omega)
      omega
    · rw [if_neg h1]
      by_cases h2 : ((a.floor + 1 : Int) : Rat) ≤ b
      · rw [if_pos h2]
        have hf : (a.floor : Rat) < a := Rat.lt_of_le_of_ne (Rat.floor_le a) h1
        have hl := Rat.lt_floor_add_one a
        have h3 : ((a.floor + 1 : Int) : Rat) = (a.floor : Rat) + 1 := by rw [Rat.intCast_add, Rat.intCast_one]
        have hff : 0 ≤ a.floor := by rw [Rat.le_floor_iff, Rat.intCast_zero]; exact Rat.le_of_lt h0
        refine ⟨Rat.le_of_lt hl, h2, ?_, fun _ => by rw [h3]; grind⟩
        intro x hx hxb
        have hp := x.den_pos
        rw [Rat.num_intCast, Rat.den_intCast]
        exact ⟨q_num_ge (show ((a.floor : Int) : Rat) < x by grind) hff rfl, by omega⟩
      · rw [if_neg h2]
        obtain ⟨hff, hf, hb, p1, p2, d1, d2⟩ := sim_step h0 hab h1 h2
        obtain ⟨i1, i2, i3, -⟩ := ih _ _ p1 p2 (by omega)
        generalize hs : simF k (b - a.floor)⁻¹ (a - a.floor)⁻¹ = s at i1 i2 i3 ⊢
        have ps : 0 < s := by grind
        have pi : 0 < s⁻¹ := Rat.inv_pos.2 ps
        have pa : 0 < a - a.floor := by grind
        have pb : 0 < b - a.floor := by grind
        have j1 : a - a.floor ≤ s⁻¹ := by
          rw [← Rat.inv_inv (a - a.floor)]
          exact (q_inv_lt (Rat.inv_pos.2 pa) ps).2 i2
        have j2 : s⁻¹ ≤ b - a.floor := by
          rw [← Rat.inv_inv (b - a.floor)]
          exact (q_inv_lt ps (Rat.inv_pos.2 pb)).2 i1
        have hin := q_addInt_num s⁻¹ a.floor
        have hv := q_inv_num ps
        refine ⟨by grind, by grind, ?_, ?_⟩
        · intro x hx hxb
          have px : 0 < x - a.floor := by grind
          have hy := i3 (x - a.floor)⁻¹ ((q_inv_lt pb px).2 (by grind)) ((q_inv_lt px pa).2 (by grind))
          have hz := q_inv_num (Rat.inv_pos.2 px)
          have hw := q_addInt_num (x - a.floor)⁻¹⁻¹ a.floor
          rw [Rat.inv_inv] at hw hz
          rw [show (a.floor : Rat) + (x - a.floor) = x by grind] at hw
          rw [hin.1, hin.2, hw.1, hw.2, hv.1]
          have hm : a.floor * ((s⁻¹).den : Int) ≤ a.floor * ((x - a.floor).den : Int) := by
            refine Int.mul_le_mul_of_nonneg_left ?_ hff
            omega
          omega
        · intro hd
          rw [hin.2] at hd
          have h4 : s⁻¹ < ((1 : Int) : Rat) := by rw [Rat.intCast_one]; grind
          rw [q_den1 hd] at h4 pi
          rw [Rat.intCast_lt_intCast] at h4
          rw [Rat.intCast_pos] at pi
          omega

theorem q_le_iff {n d m e : Int} (hd : 0 < d) (he : 0 < e) : Rat.divInt n d ≤ Rat.divInt m e ↔ n * e ≤ m * d := by
  have a1 := (low_num (n := n) hd).1
  have a2 := (low_den (n := n) hd).1
  have b1 := (low_num (n := m) he).1
  have b2 := (low_den (n := m) he).1
  have hg : (0 : Int) < (Nat.gcd n.natAbs d.natAbs : Nat) := by have := Nat.gcd_pos_of_pos_right n.natAbs (show 0 < d.natAbs by omega); omega
  have hh : (0 : Int) < (Nat.gcd m.natAbs e.natAbs : Nat) := by have := Nat.gcd_pos_of_pos_right m.natAbs (show 0 < e.natAbs by omega); omega
  generalize ((Nat.gcd n.natAbs d.natAbs : Nat) : Int) = g at a1 a2 hg
  generalize ((Nat.gcd m.natAbs e.natAbs : Nat) : Int) = h at b1 b2 hh
  generalize Rat.divInt n d = x at a1 a2 ⊢
  generalize Rat.divInt m e = y at b1 b2 ⊢
  rw [Int.add_zero] at a1 a2 b1 b2
  subst a1 a2 b1 b2
  rw [Rat.le_iff, show x.num * g * (y.den * h) = (x.num * y.den) * (g * h) by grind, show y.num * h * (x.den * g) = (y.num * x.den) * (g * h) by grind]
  exact ⟨fun hx => Int.mul_le_mul_of_nonneg_right hx (Int.le_of_lt (Int.mul_pos hg hh)), fun hx => Int.le_of_mul_le_mul_right hx (Int.mul_pos hg hh)⟩
/-- two numbers of one denominator, which is the least between two bounds that hold no integer, are the same -/
theorem q_least_uniq {a b x y : Rat} (hx : a ≤ x ∧ x ≤ b) (hy : a ≤ y ∧ y ≤ b) (hd : x.den = y.den) (h1 : x.den ≠ 1)
    (hm : ∀ z, a ≤ z → z ≤ b → x.den ≤ z.den) : x = y := by
  have key : ∀ u v : Rat, (a ≤ u ∧ u ≤ b) → (a ≤ v ∧ v ≤ b) → u.den = v.den → u.den = x.den → ¬ u.num < v.num := by
    intro u v hu hv huv hux hlt
    have hp := u.den_pos
    have hd2 : 2 ≤ u.den := by omega
    obtain ⟨d, hde⟩ : ∃ d, d = u.den := ⟨_, rfl⟩
    have e := Int.mul_ediv_add_emod u.num d
    have hr0 : 0 ≤ u.num % d := Int.emod_nonneg _ (by omega)
    have hr1 : u.num % d < d := Int.emod_lt_of_pos _ (by omega)
    have hr : u.num % d ≠ 0 := by
      intro h
      have hdv : (d : Int) ∣ u.num := Int.dvd_of_emod_eq_zero h
      have hg : Nat.gcd u.num.natAbs u.den = 1 := u.reduced
      rw [← hde, Nat.gcd_eq_right (Int.ofNat_dvd_left.1 hdv)] at hg
      omega
    generalize u.num / d = c at e
    generalize u.num % d = r at e hr0 hr1 hr
    have hz : Rat.divInt (u.num - c) ((d : Int) - 1) = Rat.divInt (u.num - c) ((d : Int) - 1) := rfl
    generalize hzz : Rat.divInt (u.num - c) ((d : Int) - 1) = z at hz
    have hzd : z.den < x.den := by
      rw [← hzz, Rat.den_divInt, if_neg (by omega)]
      refine Nat.lt_of_le_of_lt (Nat.div_le_self _ _) (by omega)
    have hle1 : u ≤ z := by
      rw [← low_self u, ← hzz, ← hde, q_le_iff (by omega) (by omega)]
      grind
    have hle2 : z ≤ v := by
      rw [← low_self v, ← hzz, ← huv, ← hde, q_le_iff (by omega) (by omega)]
      have hvm : (u.num + 1) * ((d : Int) - 1) ≤ v.num * ((d : Int) - 1) := Int.mul_le_mul_of_nonneg_right (by omega) (by omega)
      grind
    have := hm z (by grind) (by grind)
    omega
  have k1 := key x y hx hy hd rfl
  have k2 := key y x hy hx hd.symm hd.symm
  rw [Rat.eq_iff_mul_eq_mul, hd, show x.num = y.num by omega]
/-- the simplest number from a to b -/
def simQ (a b : Rat) : Rat := if b < 0 then -simF (a.den + b.den) (-b) (-a) else if a ≤ 0 then 0 else simF (a.den + b.den) a b
theorem simQ_spec {a b : Rat} (h : a ≤ b) :
    a ≤ simQ a b ∧ simQ a b ≤ b ∧ (∀ x, a ≤ x → x ≤ b → (simQ a b).den ≤ x.den) ∧
      ((simQ a b).den = 1 → (simQ a b < 0 → ¬ simQ a b + 1 ≤ b) ∧ (0 < simQ a b → ¬ a ≤ simQ a b - 1)) := by
  unfold simQ
  by_cases h1 : b < 0
  · rw [if_pos h1]
    have := sim_spec (a.den + b.den) (-b) (-a) (by grind) (by grind) (by rw [q_neg_den, q_neg_den]; omega)
    generalize simF (a.den + b.den) (-b) (-a) = s at this
    obtain ⟨i1, i2, i3, i4⟩ := this
    refine ⟨by grind, by grind, ?_, ?_⟩
    · intro x hx hxb
      have := (i3 (-x) (by grind) (by grind)).2
      rwa [q_neg_den] at this
    · intro hd
      have := i4 hd
      exact ⟨fun _ _ => this (by grind), fun h => absurd h (by grind)⟩
  · rw [if_neg h1]
    by_cases h2 : a ≤ 0
    · rw [if_pos h2]
      refine ⟨h2, by grind, fun x _ _ => ?_, fun _ => ⟨fun h => absurd h (by grind), fun h => absurd h (by grind)⟩⟩
      have := x.den_pos
      show 1 ≤ x.den
      omega
    · rw [if_neg h2]
      have := sim_spec (a.den + b.den) a b (by grind) h (by omega)
      generalize simF (a.den + b.den) a b = s at this
      obtain ⟨i1, i2, i3, i4⟩ := this
      refine ⟨i1, i2, fun x hx hxb => (i3 x hx hxb).2, fun hd => ⟨fun h => absurd h (by grind), fun _ => i4 hd⟩⟩
theorem simQ_shift {a b : Rat} (n : Int) (h : a ≤ b) (h1 : (simQ a b).den ≠ 1) : simQ (a + n) (b + n) = simQ a b + n := by
  obtain ⟨i1, i2, i3, -⟩ := simQ_spec h
  obtain ⟨j1, j2, j3, -⟩ := simQ_spec (show a + n ≤ b + n by grind)
  generalize simQ (a + n) (b + n) = s at j1 j2 j3 ⊢
  generalize simQ a b = r at i1 i2 i3 h1 ⊢
  have e1 : (r + n).den = r.den := by rw [Rat.add_comm]; exact (q_addInt_num r n).2
  have e2 : (s - n).den = s.den := by
    have := (q_addInt_num s (-n)).2
    rwa [Rat.intCast_neg, show -(n : Rat) + s = s - n by grind] at this
  have k1 := j3 (r + n) (by grind) (by grind)
  have k2 := i3 (s - n) (by grind) (by grind)
  have := q_least_uniq (x := r) (y := s - n) ⟨i1, i2⟩ ⟨by grind, by grind⟩ (by omega) h1 i3
  grind
end Go.Proofs.Gv

namespace Go.Proofs.Gv
theorem cmpQ_lt0 (a b : Rat) : decide (cmpQ a b < 0) = decide (a < b) := by
  rcases cmpQ_cases a b with ⟨h, e, _⟩ | ⟨h, e, _⟩ | ⟨h, e, _⟩ <;> rw [e]
  · exact Eq.trans (by decide) (decide_eq_true (p := a < b) h).symm
  · exact Eq.trans (by decide) (decide_eq_false (p := a < b) (by grind)).symm
  · exact Eq.trans (by decide) (decide_eq_false (p := a < b) (by grind)).symm
theorem cmpQ_gt0 (a b : Rat) : decide (0 < cmpQ a b) = decide (b < a) := by
  rcases cmpQ_cases a b with ⟨h, e, _⟩ | ⟨h, e, _⟩ | ⟨h, e, _⟩ <;> rw [e]
  · exact Eq.trans (by decide) (decide_eq_false (p := b < a) (by grind)).symm
  · exact Eq.trans (by decide) (decide_eq_false (p := b < a) (by grind)).symm
  · exact Eq.trans (by decide) (decide_eq_true (p := b < a) h).symm
/-- above and below less than 2 ^ N -/
structure Qb (N : Nat) (q : Rat) : Prop where
  up : q.num.natAbs < 2 ^ N
  lo : q.den < 2 ^ N
theorem Qb.mono {N M : Nat} {q : Rat} (h : Qb N q) (hNM : N ≤ M) : Qb M q :=
  have := Nat.pow_le_pow_right (show 0 < 2 by decide) hNM
  ⟨Nat.lt_of_lt_of_le h.up this, Nat.lt_of_lt_of_le h.lo this⟩
theorem div_num_le (n d : Int) : (Rat.divInt n d).num.natAbs ≤ n.natAbs := by
  by_cases h0 : d = 0
  · subst h0; rw [Rat.divInt_zero]; exact Nat.zero_le _
  · rw [Rat.num_divInt]
    have hg : ((d.gcd n : Nat) : Int) ∣ d.sign * n := Int.dvd_trans (Int.gcd_dvd_right ..) (Int.dvd_mul_left ..)
    obtain ⟨c, hc⟩ := hg
    have hp : 0 < d.gcd n := Int.gcd_pos_of_ne_zero_left _ h0
    rw [hc, Int.mul_ediv_cancel_left _ (by omega)]
    have e : (d.sign * n).natAbs = n.natAbs := by rw [Int.natAbs_mul, Int.natAbs_sign_of_ne_zero h0, Nat.one_mul]
    rw [hc, Int.natAbs_mul, Int.natAbs_natCast] at e
    rw [← e]
    exact Nat.le_mul_of_pos_left _ hp
theorem div_den_le (n d : Int) : (Rat.divInt n d).den ≤ max 1 d.natAbs := by
  rw [Rat.den_divInt]
  split
  · omega
  · exact Nat.le_trans (Nat.div_le_self _ _) (by omega)
theorem Qb.div {N : Nat} {n d : Int} (hn : n.natAbs < 2 ^ N) (hd : d.natAbs < 2 ^ N) (h1 : 1 ≤ N) : Qb N (Rat.divInt n d) := by
  refine ⟨Nat.lt_of_le_of_lt (div_num_le n d) hn, Nat.lt_of_le_of_lt (div_den_le n d) ?_⟩
  have := Nat.pow_le_pow_right (show 0 < 2 by decide) h1
  omega
theorem q_mul_lt {x y N M : Nat} (hx : x < 2 ^ N) (hy : y < 2 ^ M) : x * y < 2 ^ (N + M) := by
  rw [Nat.pow_add]
  have h := Nat.mul_le_mul (Nat.le_sub_one_of_lt hx) (Nat.le_sub_one_of_lt hy)
  have hp := Nat.two_pow_pos N
  have hq := Nat.two_pow_pos M
  refine Nat.lt_of_le_of_lt h ?_
  exact Nat.lt_of_le_of_lt (Nat.mul_le_mul_right _ (Nat.sub_le _ _)) (Nat.mul_lt_mul_of_pos_left (by omega) hp)
theorem imul_lt {x y : Int} {N M : Nat} (hx : x.natAbs < 2 ^ N) (hy : y.natAbs < 2 ^ M) : (x * y).natAbs < 2 ^ (N + M) := by
  rw [Int.natAbs_mul]; exact q_mul_lt hx hy
theorem iadd_lt {x y : Int} {N : Nat} (hx : x.natAbs < 2 ^ N) (hy : y.natAbs < 2 ^ N) : (x + y).natAbs < 2 ^ (N + 1) := by
  rw [Nat.pow_succ]; omega
theorem Qb.num {N : Nat} {q : Rat} (h : Qb N q) : q.num.natAbs < 2 ^ N := h.up
theorem Qb.den {N : Nat} {q : Rat} (h : Qb N q) : ((q.den : Nat) : Int).natAbs < 2 ^ N := by rw [Int.natAbs_natCast]; exact h.lo
theorem Qb.add {N M : Nat} {a b : Rat} (ha : Qb N a) (hb : Qb M b) : Qb (N + M + 1) (a + b) := by
  rw [← q_add]
  exact Qb.div (iadd_lt (imul_lt ha.num hb.den) (Nat.add_comm M N ▸ imul_lt hb.num ha.den)) (Nat.lt_trans (imul_lt ha.den hb.den) (Nat.pow_lt_pow_right (by decide) (by omega))) (by omega)
theorem Qb.neg {N : Nat} {a : Rat} (ha : Qb N a) : Qb N (-a) := ⟨by rw [q_neg_num, Int.natAbs_neg]; exact ha.up, ha.lo⟩
theorem Qb.sub {N M : Nat} {a b : Rat} (ha : Qb N a) (hb : Qb M b) : Qb (N + M + 1) (a - b) := by
  rw [Rat.sub_eq_add_neg]; exact ha.add hb.neg
theorem Qb.pos {N : Nat} {a : Rat} (ha : Qb N a) : 1 ≤ N := by
  have := a.den_pos
  have h := ha.lo
  cases N with
  | zero => simp at h; omega
  | succ N => omega
theorem Qb.mul {N M : Nat} {a b : Rat} (ha : Qb N a) (hb : Qb M b) : Qb (N + M) (a * b) := by
  have := ha.pos
  rw [← q_mul]
  exact Qb.div (imul_lt ha.num hb.num) (imul_lt ha.den hb.den) (by omega)
theorem Qb.quo {N M : Nat} {a b : Rat} (ha : Qb N a) (hb : Qb M b) : Qb (N + M) (a / b) := by
  have := ha.pos
  rw [← q_quo]
  exact Qb.div (imul_lt ha.num hb.den) (imul_lt ha.den hb.num) (by omega)
theorem Qb.int {N : Nat} {z : Int} (h : z.natAbs < 2 ^ N) (h1 : 1 ≤ N) : Qb N (z : Rat) := by
  have := Nat.pow_le_pow_right (show 0 < 2 by decide) h1
  exact ⟨h, by rw [Rat.den_intCast]; omega⟩
theorem Qb.floor {N : Nat} {a : Rat} (ha : Qb N a) : a.floor.natAbs < 2 ^ N := by
  have h := ha.up
  rw [Rat.floor_def]
  have hp := a.den_pos
  have h1 := Int.natAbs_ediv_le_natAbs a.num a.den
  omega
end Go.Proofs.Gv

namespace Go.Proofs.Gv
open Go Go.RowKit

/-- Two words that make a natural. -/
theorem two_words (n : Nat) (h : n < 18446744073709551616) : val (fun i => if i = 0 then n % 4294967296 else n / 4294967296) 2 = n := by
  simp [val, B32]
  omega

def twoW (n i : Nat) : Nat := if i = 0 then n % 4294967296 else n / 4294967296
theorem two_row (W : World) {n : Nat} {a b : Int} (ha : a = (n : Int) % 4294967296) (hb : b = (n : Int) / 4294967296) :
    (W.alloc (.cells #[.int .u32 a, .int .u32 b] 67)).rowIs W.heap.size 67 2 (u32s (twoW n)) :=
  World.rowIs_alloc W _ _ _ fun i hi => by
    have hi' : i < 2 := by simpa using hi
    subst ha; subst hb
    match i, hi' with
    | 0, _ => simp [u32s, twoW]
    | 1, _ => simp [u32s, twoW]
theorem number_two (ng : Bool) (n N : Nat) (W : World) (hN : W.heap.size = N) (hn : n < 18446744073709551616) {a b : Int} (ha : a = (n : Int) % 4294967296) (hb : b = (n : Int) / 4294967296) :
    Calls Tryd.prog 43 #[.bool ng, .slice (some ⟨N, 0, none⟩) 2 2] (W.alloc (.cells #[.int .u32 a, .int .u32 b] 67)) (RetInt (W.alloc (.cells #[.int .u32 a, .int .u32 b] 67)) ng n) := by
  subst hN
  have := number_any ng (some ⟨W.heap.size, 0, none⟩) 2 2 (twoW n) (W.alloc (.cells #[.int .u32 a, .int .u32 b] 67)) (Rd.of_row (two_row W ha hb) (Nat.le_refl _)) (fun i _ => by unfold twoW B32; split <;> omega) (Nat.le_refl _) (by omega) (by omega)
  rwa [show val (twoW n) 2 = n from two_words n hn] at this

set_option maxHeartbeats 800000 in
theorem Of_any (z : Int) (w : World) (h1 : -9223372036854775808 ≤ z) (h2 : z < 9223372036854775808) :
    Calls Tryd.prog 24 #[.int .i64 z] w (RetI w z) := by
  by_cases h0 : z < 0
  · go_enter Tryd.func24, Tryd.ntmps24
    obtain ⟨n, hz⟩ : ∃ n : Nat, z = -(n : Int) := ⟨z.natAbs, by omega⟩
    have e1 : IntKind.u64.wrap (-IntKind.u64.wrap z) = (n : Int) := by rw [IntKind.wrap_u64, IntKind.wrap_u64]; omega
    have hn : n < 18446744073709551616 := by omega
    have e2 : (n : Int) / 4294967296 % 4294967296 = (n : Int) / 4294967296 := by omega
    have Hz := Lib.hid hz
    clear hz
    have HO := Lib.hid ((Own.one w (.cells #[.bool false, .string ⟨#[]⟩] 23)).next ((Below.refl _ _).alloc (Nat.le_refl _) (.cells #[.int .u32 ((n : Int) % 4294967296), .int .u32 ((n : Int) / 4294967296)] 67)))
    go_wp2_with fail
    refine (number_two true n (w.heap.size + 1) _ (by simp) hn rfl rfl).mono ?_
    rintro e w1 ⟨rfl, hb⟩
    have HO1 := Lib.hid (HO.out.next hb)
    obtain ⟨a0, a1, a2, a3, a4⟩ := HO1.out.blk 0 w.heap.size rfl rfl
    go_wp2
    refine bodyPost_ret (v := .agg #[.bool (sg true n), .string (mg n)]) (by simp [results, Tryd.results24, go_sem, a0, a1]) rfl ?_
    refine RetInt.toI ⟨rfl, ?_⟩ (by rw [Hz.out]; simp)
    exact HO1.out.stored w.heap.size (Nat.le_refl _) _ _
  · obtain ⟨n, rfl⟩ : ∃ n : Nat, z = n := ⟨z.toNat, by omega⟩
    go_enter Tryd.func24, Tryd.ntmps24
    go_wp2_with fail
    have HO := Lib.hid ((Own.one w (.cells #[.bool false, .string ⟨#[]⟩] 23)).next ((Below.refl _ _).alloc (Nat.le_refl _) (.cells #[.int .u32 ((n : Int) % 4294967296), .int .u32 ((n : Int) / 4294967296)] 67)))
    refine (number_two false n (w.heap.size + 1) _ (by simp) (by omega) rfl rfl).mono ?_
    rintro e w1 ⟨rfl, hb⟩
    have HO1 := Lib.hid (HO.out.next hb)
    obtain ⟨a0, a1, a2, a3, a4⟩ := HO1.out.blk 0 w.heap.size rfl rfl
    go_wp2
    refine bodyPost_ret (v := .agg #[.bool (sg false n), .string (mg n)]) (by simp [results, Tryd.results24, go_sem, a0, a1]) rfl ?_
    refine RetInt.toI ⟨rfl, ?_⟩ (by simp)
    exact HO1.out.stored w.heap.size (Nat.le_refl _) _ _
end Go.Proofs.Gv

namespace Go.Proofs.Gv
open Go Go.RowKit

/-- Sign and bytes are equal. -/
def eqI (a : Bool) (s : ByteArray) (b : Bool) (t : ByteArray) : Bool := (a == b) && (s.toList == t.toList)
theorem eqI_iff {a b : Bool} {s t : ByteArray} : eqI a s b t = true ↔ a = b ∧ s = t := by
  unfold eqI
  rw [Bool.and_eq_true, beq_iff_eq, beq_iff_eq, ByteArray.toList_eq, ByteArray.toList_eq]
  constructor
  · rintro ⟨h1, h2⟩; exact ⟨h1, by rcases s with ⟨⟨x⟩⟩; rcases t with ⟨⟨y⟩⟩; simpa using h2⟩
  · rintro ⟨rfl, rfl⟩; exact ⟨rfl, rfl⟩
theorem eqI_V (x y : Int) : eqI (sgn x) (mg x.natAbs) (sgn y) (mg y.natAbs) = decide (x = y) := by
  rw [Bool.eq_iff_iff, eqI_iff, decide_eq_true_eq]
  constructor
  · rintro ⟨h1, h2⟩; exact V_inj h1 h2
  · rintro rfl; exact ⟨rfl, rfl⟩

theorem eqS (a b : Bool) (s t : ByteArray) (w : World) :
    (Op.equalIn 10000 23 (.agg #[.bool a, .string s]) (.agg #[.bool b, .string t])).run Tryd.prog w = .ok (eqI a s b t) w := by
  have hS : Tryd.prog.underlying 23 = some (.struct (Tryd.prog.fieldsOf 23)) := by kernel_rfl
  have hp : Tryd.prog.stoodInHeld 23 = false := by kernel_rfl
  have u4 := Tryd.underlying4
  have a4 := Tryd.isAgg4
  have z4 := Tryd.sizeOf4
  have u9 := Tryd.underlying9
  have a9 := Tryd.isAgg9
  have z9 := Tryd.sizeOf9
  rw [show (10000 : Nat) = 9999 + 1 from rfl, run_equalIn_agg w 9999 23 _ _ hS hp]
  simp only [Program.fieldsOf, Tryd.underlying23]
  go_simp
  unfold eqI
  by_cases h : s.toList = t.toList <;> cases a <;> cases b <;> simp [h]
@[go_sem ↓] theorem run_eqlS (a b : Bool) (s t : ByteArray) (w : World) :
    (binOp .eql 23 (.agg #[.bool a, .string s]) (.agg #[.bool b, .string t])).run Tryd.prog w = .ok (.bool (eqI a s b t)) w := by
  rw [run_eql_struct, eqS]; rfl
@[go_sem ↓] theorem run_neqS (a b : Bool) (s t : ByteArray) (w : World) :
    (binOp .neq 23 (.agg #[.bool a, .string s]) (.agg #[.bool b, .string t])).run Tryd.prog w = .ok (.bool (!eqI a s b t)) w := by
  rw [run_neq_struct, eqS]; rfl
@[go_sem] theorem eqGuardS : Tryd.prog.eqGuardType Tryd.prog.depth 23 = false := by kernel_rfl
end Go.Proofs.Gv
