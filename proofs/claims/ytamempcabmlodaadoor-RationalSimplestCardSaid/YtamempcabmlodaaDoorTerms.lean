/- rational.terms: the iterator over the terms of a continued fraction (printed in part by gen_terms.py). -/
import Derived.Test.YtamempcabmlodaaDoorVwP
import Derived.Test.YtamempcabmlodaaDoorRatTabP
import Derived.Test.YtamempcabmlodaaDoorRatJP
import Derived.RangeFuncCalls
import Derived.Shelf.Abstract
import Derived.OwnWalkIn
import Derived.TacticsInMore
import Derived.LoopNIn
import Derived.LoopIn
import Derived.Sort.LoopGhostIn
set_option linter.unusedSimpArgs false
set_option linter.unusedVariables false
namespace Go.Proofs.Gv
open Go Go.RowKit
attribute [local go_sem] Oper.semAt_some

/-- The cells of a number. -/
def qn (q : Rat) : Bool := sgn q.num
def qs (q : Rat) : ByteArray := mg q.num.natAbs
def qd (q : Rat) : ByteArray := mg q.den
theorem cmpQ_one {a b : Rat} (h : b < a) : cmpQ a b = 1 := by rcases cmpQ_cases a b with ⟨h1, e, _⟩ | ⟨h1, e, _⟩ | ⟨h1, e, _⟩ <;> first | exact e | (exfalso; grind)
theorem cmpQ_neg {a b : Rat} (h : a < b) : cmpQ a b = -1 := by rcases cmpQ_cases a b with ⟨h1, e, _⟩ | ⟨h1, e, _⟩ | ⟨h1, e, _⟩ <;> first | exact e | (exfalso; grind)
theorem cmpQ_self (a : Rat) : cmpQ a a = 0 := by rcases cmpQ_cases a a with ⟨h1, e, _⟩ | ⟨h1, e, _⟩ | ⟨h1, e, _⟩ <;> first | exact e | (exfalso; grind)

set_option maxRecDepth 100000 in
set_option maxHeartbeats 4000000 in
theorem terms1_in (n : Nat) (hn : 1 ≤ n) (l bx by_ L N k0 : Nat) (a0 b0 : Rat) (h0 : 0 < a0) (hab : a0 ≤ b0) (hk0 : a0.den + b0.den ≤ k0) (A0 : Qb N a0) (B0 : Qb N b0) (hN : N ≤ 50000) (hbxy : bx < by_)
    (J : List Int → World → Prop) (hJ : ∀ pre A B, J pre A → Own2 (fun k => k = bx ∨ k = by_) A B → J pre B)
    (hY : ∀ pre (x : Int) W1, J pre W1 → (pre ++ [x]).length ≤ (cfF k0 a0 b0).length → YieldAt Fence.wide (n - 1) Tryd.prog l #[.agg #[.bool (qn (x : Rat)), .string (qs (x : Rat)), .bool false, .string (qd (x : Rat))]] W1 fun e W' => e = .returned (.bool true) ∧ J (pre ++ [x]) W' ∧ KpL L W1 W')
    (W : World) (hbs : Bs [(by_, [.bool (qn b0), .string (qs b0), .bool false, .string (qd b0)]), (bx, [.bool (qn a0), .string (qs a0), .bool false, .string (qd a0)])] W) (hvw : Vw L [by_, bx] W) (h00 : J [] W) :
    CallsIn Fence.wide n Tryd.prog 63 #[.func (.yield l) #[] #[], .pointer (some ⟨bx, 0, none⟩), .pointer (some ⟨by_, 0, none⟩)] W fun e W' => (∃ v, e = .returned v) ∧ ∃ xs, xs = cfF k0 a0 b0 ∧ J xs W' := by
  have HHY := Lib.hid hY
  obtain ⟨one, hone⟩ : ∃ q : Rat, (1 : Rat) = q := ⟨_, rfl⟩
  have RO : Rq (qn one) (qs one) false (qd one) one := by rw [← hone]; exact Rq.V (N := 1) (q := 1) ⟨by decide, by decide⟩ (by decide)
  have HO1 := Lib.hid cOne
  have HO2 := Lib.hid (fun W => show Calls Tryd.prog 22 #[.agg #[.bool false, .string (mg 1)]] W (fun e w' => e = .returned (.agg #[.bool (qn one), .string (qs one), .bool false, .string (qd one)]) ∧ Below W.heap.size W w') from by
    have := cQOf Rp.one W
    rw [Rat.intCast_one, hone] at this
    exact this)
  have HHJ := Lib.hid hJ
  have HL0 := Lib.hid (Below.refl W.heap.size W)
  have HB0 := Lib.hid hbs
  have HV0 := Lib.hid hvw
  have HJ0 := Lib.hid h00
  clear hbs hvw h00 hY
  refine callsIn_of_wp Tryd.func63 rfl trivial ?_ rfl
  simp only [Tryd.ntmps63, List.size_toArray, List.length_cons, List.length_nil, Nat.reduceAdd, Nat.reduceSub, Array.replicate_succ, Array.replicate_zero, List.push_toArray, List.append_toArray, List.nil_append, List.cons_append]
  gi_wp2
  refine ⟨trivial, callsIn_wide.2 ?_⟩
  refine (HO1.out _).mono ?_
  rintro e w1 ⟨rfl, hb⟩
  have HL1 := Lib.hid (bstep HL0.out hb)
  have HB1 := Lib.hid (HB0.out.bel hb)
  have HV1 := Lib.hid (HV0.out.below hb)
  have HJ1 := Lib.hid (hJ _ _ _ HJ0.out ((Own2.refl _ _).below hb))
  clear hb
  clear HL0 HB0 HV0 HJ0
  gi_wp2
  refine ⟨trivial, callsIn_wide.2 ?_⟩
  refine (HO2.out _).mono ?_
  rintro e w2 ⟨rfl, hb⟩
  have HL2 := Lib.hid (bstep HL1.out hb)
  have HB2 := Lib.hid (HB1.out.bel hb)
  have HV2 := Lib.hid (HV1.out.below hb)
  have HJ2 := Lib.hid (hJ _ _ _ HJ1.out ((Own2.refl _ _).below hb))
  clear hb
  clear HL1 HB1 HV1 HJ1
  have HO100 := Lib.hid (show by_ < w2.heap.size from by have := (HB2.out.1).lt; first | omega | (simp at this; omega))
  have HL3 := Lib.hid (HL2.out.alloc HL2.out.size (.cells #[.bool (qn one), .string (qs one), .bool false, .string (qd one)] 25))
  have HB3 := Lib.hid (HB2.out.push (w2.heap.size) #[.bool (qn one), .string (qs one), .bool false, .string (qd one)] 25 (by first | rfl | simp))
  have HV3 := Lib.hid (HV2.out.new (b := w2.heap.size) ((Below.refl _ _).alloc (Nat.le_refl _) (.cells #[.bool (qn one), .string (qs one), .bool false, .string (qd one)] 25)) (by first | exact Nat.le_refl _ | simp))
  have HJ3 := Lib.hid (hJ _ _ _ HJ2.out ((Own2.refl _ _).below ((Below.refl _ _).alloc (Nat.le_refl _) (.cells #[.bool (qn one), .string (qs one), .bool false, .string (qd one)] 25))))
  clear HL2 HB2 HV2 HJ2
  gi_wp2
  obtain ⟨Bw2, hB⟩ : ∃ B, w2.heap.size = B := ⟨_, rfl⟩
  rw [hB] at HB3 HV3 ⊢
  try rw [hB] at HO100
  clear hB
  obtain ⟨W3, hW⟩ : ∃ W, (w2.alloc (.cells #[.bool (qn one), .string (qs one), .bool false, .string (qd one)] 25)) = W := ⟨_, rfl⟩
  rw [hW] at HB3 HL3 HV3 HJ3 ⊢
  clear hW
  have HOX := HO100.out
  gi_loopg [] (k0 + 1) (fun gg wr => ∃ (pre : List Int) (k : Nat) (a b : Rat), k + 1 ≤ gg ∧ pre ++ cfF k a b = cfF k0 a0 b0 ∧ 0 < a ∧ a ≤ b ∧ a.den + b.den ≤ k ∧ Qb N a ∧ Qb N b ∧ J pre wr ∧ Bs [(Bw2, [.bool (qn one), .string (qs one), .bool false, .string (qd one)]), (by_, [.bool (qn b), .string (qs b), .bool false, .string (qd b)]), (bx, [.bool (qn a), .string (qs a), .bool false, .string (qd a)])] wr ∧ Vw L [Bw2, by_, bx] wr)
  case atStart => exact ⟨[], k0, a0, b0, Nat.le_refl _, rfl, h0, hab, hk0, A0, B0, HJ3.out, HB3.out, HV3.out⟩
  case round =>
    obtain ⟨pre, k, a, b, hg, hpre, p0, pab, hk, A, B, hj, hb, hv⟩ := hrel
    clear HL3 HB3 HV3 HJ3
    obtain ⟨k, rfl⟩ : ∃ j, k = j + 1 := ⟨k - 1, by have := a.den_pos; omega⟩
    have HL0 := Lib.hid (Below.refl wr.heap.size wr)
    have HB0 := Lib.hid hb
    have HV0 := Lib.hid hv
    have HJ0 := Lib.hid hj
    have HG := Lib.hid hg
    have RA : Rq (qn a) (qs a) false (qd a) a := Rq.V A (by omega)
    have RB : Rq (qn b) (qs b) false (qd b) b := Rq.V B (by omega)
    obtain ⟨z, hz⟩ : ∃ z, a.floor = z := ⟨_, rfl⟩
    obtain ⟨f, hf⟩ : ∃ q : Rat, ((z : Int) : Rat) = q := ⟨_, rfl⟩
    obtain ⟨up, hup⟩ : ∃ q : Rat, (((z + 1 : Int)) : Rat) = q := ⟨_, rfl⟩
    have hzN : z.natAbs < 2 ^ N := by rw [← hz]; exact A.floor
    have QF : Qb N f := by rw [← hf]; exact Qb.int hzN A.pos
    have QU : Qb (N + 1) up := by rw [← hup]; exact Qb.int (iadd_lt hzN (Nat.one_lt_pow (by have := A.pos; omega) (by decide))) (by omega)
    have RF : Rq (qn f) (qs f) false (qd f) f := Rq.V QF (by omega)
    have RU : Rq (qn up) (qs up) false (qd up) up := Rq.V QU (by omega)
    obtain ⟨zn, hzn⟩ : ∃ x, sgn z = x := ⟨_, rfl⟩
    obtain ⟨zs, hzs⟩ : ∃ x, mg z.natAbs = x := ⟨_, rfl⟩
    have HFl := Lib.hid (fun W => show Calls Tryd.prog 30 #[.agg #[.bool (qn a), .string (qs a), .bool false, .string (qd a)]] W (fun e w' => e = .returned (.agg #[.bool zn, .string zs]) ∧ Below W.heap.size W w') from by
      have := cQFloor RA W
      rw [hz, hzn, hzs] at this
      exact this)
    have HOf := Lib.hid (fun W => show Calls Tryd.prog 22 #[.agg #[.bool zn, .string zs]] W (fun e w' => e = .returned (.agg #[.bool (qn f), .string (qs f), .bool false, .string (qd f)]) ∧ Below W.heap.size W w') from by
      have := cQOf (rpV hzN (by omega)) W
      rw [hf, hzn, hzs] at this
      exact this)
    have HAd := Lib.hid (fun W => show Calls Tryd.prog 16 #[.agg #[.bool (qn f), .string (qs f), .bool false, .string (qd f)], .agg #[.bool (qn one), .string (qs one), .bool false, .string (qd one)]] W (fun e w' => e = .returned (.agg #[.bool (qn up), .string (qs up), .bool false, .string (qd up)]) ∧ Below W.heap.size W w') from by
      have := cQAdd RF RO W
      rw [show f + one = up by rw [← hf, ← hone, ← hup, Rat.intCast_add, Rat.intCast_one]] at this
      exact this)
    have HC1 := Lib.hid (cQCmp RF RA)
    have HC2 := Lib.hid (cQCmp RU RB)
    have hfa : f ≤ a := by rw [← hf, ← hz]; exact Rat.floor_le a
    by_cases h1 : f = a
    · have hc : cmpQ f a = 0 := by rw [h1]; exact cmpQ_self a
      rw [hc] at HC1
      clear hc
      have H1 := Lib.hid h1
      clear h1 hfa
      have fx0_0_0 := (HB0.out.2.2.1).at 0 (.bool (qn a)) rfl
      have fx0_1_0 := (HB0.out.2.2.1).at 1 (.string (qs a)) rfl
      have fx0_2_0 := (HB0.out.2.2.1).at 2 (.bool false) rfl
      have fx0_3_0 := (HB0.out.2.2.1).at 3 (.string (qd a)) rfl
      gi_wp2
      refine ⟨trivial, callsIn_wide.2 ?_⟩
      refine (HFl.out _).mono ?_
      rintro e w21 ⟨rfl, hb⟩
      have HL1 := Lib.hid (bstep HL0.out hb)
      have HB1 := Lib.hid (HB0.out.bel hb)
      have HV1 := Lib.hid (HV0.out.below hb)
      have HJ1 := Lib.hid (hJ _ _ _ HJ0.out ((Own2.refl _ _).below hb))
      clear hb
      clear HL0 HB0 HV0 HJ0 fx0_0_0 fx0_1_0 fx0_2_0 fx0_3_0
      gi_wp2
      refine ⟨trivial, callsIn_wide.2 ?_⟩
      refine (HOf.out _).mono ?_
      rintro e w22 ⟨rfl, hb⟩
      have HL2 := Lib.hid (bstep HL1.out hb)
      have HB2 := Lib.hid (HB1.out.bel hb)
      have HV2 := Lib.hid (HV1.out.below hb)
      have HJ2 := Lib.hid (hJ _ _ _ HJ1.out ((Own2.refl _ _).below hb))
      clear hb
      clear HL1 HB1 HV1 HJ1
      have HO100 := Lib.hid (show Bw2 < w22.heap.size from by have := (HB2.out.1).lt; first | omega | (simp at this; omega))
      have HL3 := Lib.hid (HL2.out.alloc HL2.out.size (.cells #[.bool (qn f), .string (qs f), .bool false, .string (qd f)] 25))
      have HB3 := Lib.hid (HB2.out.push (w22.heap.size) #[.bool (qn f), .string (qs f), .bool false, .string (qd f)] 25 (by first | rfl | simp))
      have HV3 := Lib.hid (HV2.out.new (b := w22.heap.size) ((Below.refl _ _).alloc (Nat.le_refl _) (.cells #[.bool (qn f), .string (qs f), .bool false, .string (qd f)] 25)) (by first | exact Nat.le_refl _ | simp))
      have HJ3 := Lib.hid (hJ _ _ _ HJ2.out ((Own2.refl _ _).below ((Below.refl _ _).alloc (Nat.le_refl _) (.cells #[.bool (qn f), .string (qs f), .bool false, .string (qd f)] 25))))
      clear HL2 HB2 HV2 HJ2
      have fx3_0_3 := (HB3.out.1).at 0 (.bool (qn f)) rfl
      have fx3_1_3 := (HB3.out.1).at 1 (.string (qs f)) rfl
      have fx3_2_3 := (HB3.out.1).at 2 (.bool false) rfl
      have fx3_3_3 := (HB3.out.1).at 3 (.string (qd f)) rfl
      have fx2_0_3 := (HB3.out.2.1).at 0 (.bool (qn one)) rfl
      have fx2_1_3 := (HB3.out.2.1).at 1 (.string (qs one)) rfl
      have fx2_2_3 := (HB3.out.2.1).at 2 (.bool false) rfl
      have fx2_3_3 := (HB3.out.2.1).at 3 (.string (qd one)) rfl
      gi_wp2
      refine ⟨trivial, callsIn_wide.2 ?_⟩
      refine (HAd.out _).mono ?_
      rintro e w23 ⟨rfl, hb⟩
      have HL4 := Lib.hid (bstep HL3.out hb)
      have HB4 := Lib.hid (HB3.out.bel hb)
      have HV4 := Lib.hid (HV3.out.below hb)
      have HJ4 := Lib.hid (hJ _ _ _ HJ3.out ((Own2.refl _ _).below hb))
      clear hb
      clear HL3 HB3 HV3 HJ3 fx3_0_3 fx3_1_3 fx3_2_3 fx3_3_3 fx2_0_3 fx2_1_3 fx2_2_3 fx2_3_3
      have HO101 := Lib.hid (show w22.heap.size < w23.heap.size from by have := (HB4.out.1).lt; first | omega | (simp at this; omega))
      have HL5 := Lib.hid (HL4.out.alloc HL4.out.size (.cells #[.bool (qn up), .string (qs up), .bool false, .string (qd up)] 25))
      have HB5 := Lib.hid (HB4.out.push (w23.heap.size) #[.bool (qn up), .string (qs up), .bool false, .string (qd up)] 25 (by first | rfl | simp))
      have HV5 := Lib.hid (HV4.out.new (b := w23.heap.size) ((Below.refl _ _).alloc (Nat.le_refl _) (.cells #[.bool (qn up), .string (qs up), .bool false, .string (qd up)] 25)) (by first | exact Nat.le_refl _ | simp))
      have HJ5 := Lib.hid (hJ _ _ _ HJ4.out ((Own2.refl _ _).below ((Below.refl _ _).alloc (Nat.le_refl _) (.cells #[.bool (qn up), .string (qs up), .bool false, .string (qd up)] 25))))
      clear HL4 HB4 HV4 HJ4
      have fx3_0_5 := (HB5.out.2.1).at 0 (.bool (qn f)) rfl
      have fx3_1_5 := (HB5.out.2.1).at 1 (.string (qs f)) rfl
      have fx3_2_5 := (HB5.out.2.1).at 2 (.bool false) rfl
      have fx3_3_5 := (HB5.out.2.1).at 3 (.string (qd f)) rfl
      have fx0_0_5 := (HB5.out.2.2.2.2.1).at 0 (.bool (qn a)) rfl
      have fx0_1_5 := (HB5.out.2.2.2.2.1).at 1 (.string (qs a)) rfl
      have fx0_2_5 := (HB5.out.2.2.2.2.1).at 2 (.bool false) rfl
      have fx0_3_5 := (HB5.out.2.2.2.2.1).at 3 (.string (qd a)) rfl
      gi_wp2
      refine ⟨trivial, callsIn_wide.2 ?_⟩
      refine (HC1.out _).mono ?_
      rintro e w24 ⟨rfl, hb⟩
      have HL6 := Lib.hid (bstep HL5.out hb)
      have HB6 := Lib.hid (HB5.out.bel hb)
      have HV6 := Lib.hid (HV5.out.below hb)
      have HJ6 := Lib.hid (hJ _ _ _ HJ5.out ((Own2.refl _ _).below hb))
      clear hb
      clear HL5 HB5 HV5 HJ5 fx3_0_5 fx3_1_5 fx3_2_5 fx3_3_5 fx0_0_5 fx0_1_5 fx0_2_5 fx0_3_5
      have fx3_0_6 := (HB6.out.2.1).at 0 (.bool (qn f)) rfl
      have fx3_1_6 := (HB6.out.2.1).at 1 (.string (qs f)) rfl
      have fx3_2_6 := (HB6.out.2.1).at 2 (.bool false) rfl
      have fx3_3_6 := (HB6.out.2.1).at 3 (.string (qd f)) rfl
      obtain ⟨fn, tmps, assign, body, hy, hR⟩ := HHY.out pre z _ HJ6.out (by rw [← hpre, List.length_append, List.length_append]; obtain ⟨x, t, e⟩ := cfF_ne (k + 1) a b; rw [e]; simp)
      rw [hf] at hy
      have HR := Lib.hid hR
      clear hR
      gi_wp2
      refine HR.out.mono ?_
      rintro e w25 ⟨rfl, hj, hkp⟩
      clear hy HR fx3_0_6 fx3_1_6 fx3_2_6 fx3_3_6
      gi_wp2
      refine bodyPost_ret (results_none rfl _ _ _) rfl ?_
      refine ⟨⟨_, rfl⟩, _, ?_, hj⟩
      rw [← hpre]; congr 1
      unfold cfF; rw [hz, hf, if_pos H1.out]
    · have hlt : f < a := Rat.lt_of_le_of_ne hfa h1
      rw [cmpQ_neg hlt] at HC1
      by_cases h2 : up ≤ b
      · have hcc : ∃ c, cmpQ up b = c ∧ (c = -1 ∨ c = 0) := ⟨_, rfl, by rcases cmpQ_cases up b with ⟨_, e, _⟩ | ⟨_, e, _⟩ | ⟨h, _, _⟩; exact .inl e; exact .inr e; exact absurd h2 (Rat.not_le.2 h)⟩
        obtain ⟨c, hc, hc2⟩ := hcc
        rw [hc] at HC2
        clear hc
        rcases hc2 with rfl | rfl
        · skip
          have fx0_0_0 := (HB0.out.2.2.1).at 0 (.bool (qn a)) rfl
          have fx0_1_0 := (HB0.out.2.2.1).at 1 (.string (qs a)) rfl
          have fx0_2_0 := (HB0.out.2.2.1).at 2 (.bool false) rfl
          have fx0_3_0 := (HB0.out.2.2.1).at 3 (.string (qd a)) rfl
          gi_wp2
          refine ⟨trivial, callsIn_wide.2 ?_⟩
          refine (HFl.out _).mono ?_
          rintro e w21 ⟨rfl, hb⟩
          have HL1 := Lib.hid (bstep HL0.out hb)
          have HB1 := Lib.hid (HB0.out.bel hb)
          have HV1 := Lib.hid (HV0.out.below hb)
          have HJ1 := Lib.hid (hJ _ _ _ HJ0.out ((Own2.refl _ _).below hb))
          clear hb
          clear HL0 HB0 HV0 HJ0 fx0_0_0 fx0_1_0 fx0_2_0 fx0_3_0
          gi_wp2
          refine ⟨trivial, callsIn_wide.2 ?_⟩
          refine (HOf.out _).mono ?_
          rintro e w22 ⟨rfl, hb⟩
          have HL2 := Lib.hid (bstep HL1.out hb)
          have HB2 := Lib.hid (HB1.out.bel hb)
          have HV2 := Lib.hid (HV1.out.below hb)
          have HJ2 := Lib.hid (hJ _ _ _ HJ1.out ((Own2.refl _ _).below hb))
          clear hb
          clear HL1 HB1 HV1 HJ1
          have HO100 := Lib.hid (show Bw2 < w22.heap.size from by have := (HB2.out.1).lt; first | omega | (simp at this; omega))
          have HL3 := Lib.hid (HL2.out.alloc HL2.out.size (.cells #[.bool (qn f), .string (qs f), .bool false, .string (qd f)] 25))
          have HB3 := Lib.hid (HB2.out.push (w22.heap.size) #[.bool (qn f), .string (qs f), .bool false, .string (qd f)] 25 (by first | rfl | simp))
          have HV3 := Lib.hid (HV2.out.new (b := w22.heap.size) ((Below.refl _ _).alloc (Nat.le_refl _) (.cells #[.bool (qn f), .string (qs f), .bool false, .string (qd f)] 25)) (by first | exact Nat.le_refl _ | simp))
          have HJ3 := Lib.hid (hJ _ _ _ HJ2.out ((Own2.refl _ _).below ((Below.refl _ _).alloc (Nat.le_refl _) (.cells #[.bool (qn f), .string (qs f), .bool false, .string (qd f)] 25))))
          clear HL2 HB2 HV2 HJ2
          have fx3_0_3 := (HB3.out.1).at 0 (.bool (qn f)) rfl
          have fx3_1_3 := (HB3.out.1).at 1 (.string (qs f)) rfl
          have fx3_2_3 := (HB3.out.1).at 2 (.bool false) rfl
          have fx3_3_3 := (HB3.out.1).at 3 (.string (qd f)) rfl
          have fx2_0_3 := (HB3.out.2.1).at 0 (.bool (qn one)) rfl
          have fx2_1_3 := (HB3.out.2.1).at 1 (.string (qs one)) rfl
          have fx2_2_3 := (HB3.out.2.1).at 2 (.bool false) rfl
          have fx2_3_3 := (HB3.out.2.1).at 3 (.string (qd one)) rfl
          gi_wp2
          refine ⟨trivial, callsIn_wide.2 ?_⟩
          refine (HAd.out _).mono ?_
          rintro e w23 ⟨rfl, hb⟩
          have HL4 := Lib.hid (bstep HL3.out hb)
          have HB4 := Lib.hid (HB3.out.bel hb)
          have HV4 := Lib.hid (HV3.out.below hb)
          have HJ4 := Lib.hid (hJ _ _ _ HJ3.out ((Own2.refl _ _).below hb))
          clear hb
          clear HL3 HB3 HV3 HJ3 fx3_0_3 fx3_1_3 fx3_2_3 fx3_3_3 fx2_0_3 fx2_1_3 fx2_2_3 fx2_3_3
          have HO101 := Lib.hid (show w22.heap.size < w23.heap.size from by have := (HB4.out.1).lt; first | omega | (simp at this; omega))
          have HL5 := Lib.hid (HL4.out.alloc HL4.out.size (.cells #[.bool (qn up), .string (qs up), .bool false, .string (qd up)] 25))
          have HB5 := Lib.hid (HB4.out.push (w23.heap.size) #[.bool (qn up), .string (qs up), .bool false, .string (qd up)] 25 (by first | rfl | simp))
          have HV5 := Lib.hid (HV4.out.new (b := w23.heap.size) ((Below.refl _ _).alloc (Nat.le_refl _) (.cells #[.bool (qn up), .string (qs up), .bool false, .string (qd up)] 25)) (by first | exact Nat.le_refl _ | simp))
          have HJ5 := Lib.hid (hJ _ _ _ HJ4.out ((Own2.refl _ _).below ((Below.refl _ _).alloc (Nat.le_refl _) (.cells #[.bool (qn up), .string (qs up), .bool false, .string (qd up)] 25))))
          clear HL4 HB4 HV4 HJ4
          have fx3_0_5 := (HB5.out.2.1).at 0 (.bool (qn f)) rfl
          have fx3_1_5 := (HB5.out.2.1).at 1 (.string (qs f)) rfl
          have fx3_2_5 := (HB5.out.2.1).at 2 (.bool false) rfl
          have fx3_3_5 := (HB5.out.2.1).at 3 (.string (qd f)) rfl
          have fx0_0_5 := (HB5.out.2.2.2.2.1).at 0 (.bool (qn a)) rfl
          have fx0_1_5 := (HB5.out.2.2.2.2.1).at 1 (.string (qs a)) rfl
          have fx0_2_5 := (HB5.out.2.2.2.2.1).at 2 (.bool false) rfl
          have fx0_3_5 := (HB5.out.2.2.2.2.1).at 3 (.string (qd a)) rfl
          gi_wp2
          refine ⟨trivial, callsIn_wide.2 ?_⟩
          refine (HC1.out _).mono ?_
          rintro e w24 ⟨rfl, hb⟩
          have HL6 := Lib.hid (bstep HL5.out hb)
          have HB6 := Lib.hid (HB5.out.bel hb)
          have HV6 := Lib.hid (HV5.out.below hb)
          have HJ6 := Lib.hid (hJ _ _ _ HJ5.out ((Own2.refl _ _).below hb))
          clear hb
          clear HL5 HB5 HV5 HJ5 fx3_0_5 fx3_1_5 fx3_2_5 fx3_3_5 fx0_0_5 fx0_1_5 fx0_2_5 fx0_3_5
          have fx4_0_6 := (HB6.out.1).at 0 (.bool (qn up)) rfl
          have fx4_1_6 := (HB6.out.1).at 1 (.string (qs up)) rfl
          have fx4_2_6 := (HB6.out.1).at 2 (.bool false) rfl
          have fx4_3_6 := (HB6.out.1).at 3 (.string (qd up)) rfl
          have fx1_0_6 := (HB6.out.2.2.2.1).at 0 (.bool (qn b)) rfl
          have fx1_1_6 := (HB6.out.2.2.2.1).at 1 (.string (qs b)) rfl
          have fx1_2_6 := (HB6.out.2.2.2.1).at 2 (.bool false) rfl
          have fx1_3_6 := (HB6.out.2.2.2.1).at 3 (.string (qd b)) rfl
          gi_wp2
          refine ⟨trivial, callsIn_wide.2 ?_⟩
          refine (HC2.out _).mono ?_
          rintro e w25 ⟨rfl, hb⟩
          have HL7 := Lib.hid (bstep HL6.out hb)
          have HB7 := Lib.hid (HB6.out.bel hb)
          have HV7 := Lib.hid (HV6.out.below hb)
          have HJ7 := Lib.hid (hJ _ _ _ HJ6.out ((Own2.refl _ _).below hb))
          clear hb
          clear HL6 HB6 HV6 HJ6 fx4_0_6 fx4_1_6 fx4_2_6 fx4_3_6 fx1_0_6 fx1_1_6 fx1_2_6 fx1_3_6
          have fx4_0_7 := (HB7.out.1).at 0 (.bool (qn up)) rfl
          have fx4_1_7 := (HB7.out.1).at 1 (.string (qs up)) rfl
          have fx4_2_7 := (HB7.out.1).at 2 (.bool false) rfl
          have fx4_3_7 := (HB7.out.1).at 3 (.string (qd up)) rfl
          obtain ⟨fn, tmps, assign, body, hy, hR⟩ := HHY.out pre (z + 1) _ HJ7.out (by rw [← hpre, List.length_append, List.length_append]; obtain ⟨x, t, e⟩ := cfF_ne (k + 1) a b; rw [e]; simp)
          rw [hup] at hy
          have HR := Lib.hid hR
          clear hR
          gi_wp2
          refine HR.out.mono ?_
          rintro e w26 ⟨rfl, hj, hkp⟩
          clear hy HR fx4_0_7 fx4_1_7 fx4_2_7 fx4_3_7
          gi_wp2
          refine bodyPost_ret (results_none rfl _ _ _) rfl ?_
          refine ⟨⟨_, rfl⟩, _, ?_, hj⟩
          rw [← hpre]; congr 1
          unfold cfF; rw [hz, hf, if_neg h1, hup, if_pos h2]
        · skip
          have fx0_0_0 := (HB0.out.2.2.1).at 0 (.bool (qn a)) rfl
          have fx0_1_0 := (HB0.out.2.2.1).at 1 (.string (qs a)) rfl
          have fx0_2_0 := (HB0.out.2.2.1).at 2 (.bool false) rfl
          have fx0_3_0 := (HB0.out.2.2.1).at 3 (.string (qd a)) rfl
          gi_wp2
          refine ⟨trivial, callsIn_wide.2 ?_⟩
          refine (HFl.out _).mono ?_
          rintro e w21 ⟨rfl, hb⟩
          have HL1 := Lib.hid (bstep HL0.out hb)
          have HB1 := Lib.hid (HB0.out.bel hb)
          have HV1 := Lib.hid (HV0.out.below hb)
          have HJ1 := Lib.hid (hJ _ _ _ HJ0.out ((Own2.refl _ _).below hb))
          clear hb
          clear HL0 HB0 HV0 HJ0 fx0_0_0 fx0_1_0 fx0_2_0 fx0_3_0
          gi_wp2
          refine ⟨trivial, callsIn_wide.2 ?_⟩
          refine (HOf.out _).mono ?_
          rintro e w22 ⟨rfl, hb⟩
          have HL2 := Lib.hid (bstep HL1.out hb)
          have HB2 := Lib.hid (HB1.out.bel hb)
          have HV2 := Lib.hid (HV1.out.below hb)
          have HJ2 := Lib.hid (hJ _ _ _ HJ1.out ((Own2.refl _ _).below hb))
          clear hb
          clear HL1 HB1 HV1 HJ1
          have HO100 := Lib.hid (show Bw2 < w22.heap.size from by have := (HB2.out.1).lt; first | omega | (simp at this; omega))
          have HL3 := Lib.hid (HL2.out.alloc HL2.out.size (.cells #[.bool (qn f), .string (qs f), .bool false, .string (qd f)] 25))
          have HB3 := Lib.hid (HB2.out.push (w22.heap.size) #[.bool (qn f), .string (qs f), .bool false, .string (qd f)] 25 (by first | rfl | simp))
          have HV3 := Lib.hid (HV2.out.new (b := w22.heap.size) ((Below.refl _ _).alloc (Nat.le_refl _) (.cells #[.bool (qn f), .string (qs f), .bool false, .string (qd f)] 25)) (by first | exact Nat.le_refl _ | simp))
          have HJ3 := Lib.hid (hJ _ _ _ HJ2.out ((Own2.refl _ _).below ((Below.refl _ _).alloc (Nat.le_refl _) (.cells #[.bool (qn f), .string (qs f), .bool false, .string (qd f)] 25))))
          clear HL2 HB2 HV2 HJ2
          have fx3_0_3 := (HB3.out.1).at 0 (.bool (qn f)) rfl
          have fx3_1_3 := (HB3.out.1).at 1 (.string (qs f)) rfl
          have fx3_2_3 := (HB3.out.1).at 2 (.bool false) rfl
          have fx3_3_3 := (HB3.out.1).at 3 (.string (qd f)) rfl
          have fx2_0_3 := (HB3.out.2.1).at 0 (.bool (qn one)) rfl
          have fx2_1_3 := (HB3.out.2.1).at 1 (.string (qs one)) rfl
          have fx2_2_3 := (HB3.out.2.1).at 2 (.bool false) rfl
          have fx2_3_3 := (HB3.out.2.1).at 3 (.string (qd one)) rfl
          gi_wp2
          refine ⟨trivial, callsIn_wide.2 ?_⟩
          refine (HAd.out _).mono ?_
          rintro e w23 ⟨rfl, hb⟩
          have HL4 := Lib.hid (bstep HL3.out hb)
          have HB4 := Lib.hid (HB3.out.bel hb)
          have HV4 := Lib.hid (HV3.out.below hb)
          have HJ4 := Lib.hid (hJ _ _ _ HJ3.out ((Own2.refl _ _).below hb))
          clear hb
          clear HL3 HB3 HV3 HJ3 fx3_0_3 fx3_1_3 fx3_2_3 fx3_3_3 fx2_0_3 fx2_1_3 fx2_2_3 fx2_3_3
          have HO101 := Lib.hid (show w22.heap.size < w23.heap.size from by have := (HB4.out.1).lt; first | omega | (simp at this; omega))
          have HL5 := Lib.hid (HL4.out.alloc HL4.out.size (.cells #[.bool (qn up), .string (qs up), .bool false, .string (qd up)] 25))
          have HB5 := Lib.hid (HB4.out.push (w23.heap.size) #[.bool (qn up), .string (qs up), .bool false, .string (qd up)] 25 (by first | rfl | simp))
          have HV5 := Lib.hid (HV4.out.new (b := w23.heap.size) ((Below.refl _ _).alloc (Nat.le_refl _) (.cells #[.bool (qn up), .string (qs up), .bool false, .string (qd up)] 25)) (by first | exact Nat.le_refl _ | simp))
          have HJ5 := Lib.hid (hJ _ _ _ HJ4.out ((Own2.refl _ _).below ((Below.refl _ _).alloc (Nat.le_refl _) (.cells #[.bool (qn up), .string (qs up), .bool false, .string (qd up)] 25))))
          clear HL4 HB4 HV4 HJ4
          have fx3_0_5 := (HB5.out.2.1).at 0 (.bool (qn f)) rfl
          have fx3_1_5 := (HB5.out.2.1).at 1 (.string (qs f)) rfl
          have fx3_2_5 := (HB5.out.2.1).at 2 (.bool false) rfl
          have fx3_3_5 := (HB5.out.2.1).at 3 (.string (qd f)) rfl
          have fx0_0_5 := (HB5.out.2.2.2.2.1).at 0 (.bool (qn a)) rfl
          have fx0_1_5 := (HB5.out.2.2.2.2.1).at 1 (.string (qs a)) rfl
          have fx0_2_5 := (HB5.out.2.2.2.2.1).at 2 (.bool false) rfl
          have fx0_3_5 := (HB5.out.2.2.2.2.1).at 3 (.string (qd a)) rfl
          gi_wp2
          refine ⟨trivial, callsIn_wide.2 ?_⟩
          refine (HC1.out _).mono ?_
          rintro e w24 ⟨rfl, hb⟩
          have HL6 := Lib.hid (bstep HL5.out hb)
          have HB6 := Lib.hid (HB5.out.bel hb)
          have HV6 := Lib.hid (HV5.out.below hb)
          have HJ6 := Lib.hid (hJ _ _ _ HJ5.out ((Own2.refl _ _).below hb))
          clear hb
          clear HL5 HB5 HV5 HJ5 fx3_0_5 fx3_1_5 fx3_2_5 fx3_3_5 fx0_0_5 fx0_1_5 fx0_2_5 fx0_3_5
          have fx4_0_6 := (HB6.out.1).at 0 (.bool (qn up)) rfl
          have fx4_1_6 := (HB6.out.1).at 1 (.string (qs up)) rfl
          have fx4_2_6 := (HB6.out.1).at 2 (.bool false) rfl
          have fx4_3_6 := (HB6.out.1).at 3 (.string (qd up)) rfl
          have fx1_0_6 := (HB6.out.2.2.2.1).at 0 (.bool (qn b)) rfl
          have fx1_1_6 := (HB6.out.2.2.2.1).at 1 (.string (qs b)) rfl
          have fx1_2_6 := (HB6.out.2.2.2.1).at 2 (.bool false) rfl
          have fx1_3_6 := (HB6.out.2.2.2.1).at 3 (.string (qd b)) rfl
          gi_wp2
          refine ⟨trivial, callsIn_wide.2 ?_⟩
          refine (HC2.out _).mono ?_
          rintro e w25 ⟨rfl, hb⟩
          have HL7 := Lib.hid (bstep HL6.out hb)
          have HB7 := Lib.hid (HB6.out.bel hb)
          have HV7 := Lib.hid (HV6.out.below hb)
          have HJ7 := Lib.hid (hJ _ _ _ HJ6.out ((Own2.refl _ _).below hb))
          clear hb
          clear HL6 HB6 HV6 HJ6 fx4_0_6 fx4_1_6 fx4_2_6 fx4_3_6 fx1_0_6 fx1_1_6 fx1_2_6 fx1_3_6
          have fx4_0_7 := (HB7.out.1).at 0 (.bool (qn up)) rfl
          have fx4_1_7 := (HB7.out.1).at 1 (.string (qs up)) rfl
          have fx4_2_7 := (HB7.out.1).at 2 (.bool false) rfl
          have fx4_3_7 := (HB7.out.1).at 3 (.string (qd up)) rfl
          obtain ⟨fn, tmps, assign, body, hy, hR⟩ := HHY.out pre (z + 1) _ HJ7.out (by rw [← hpre, List.length_append, List.length_append]; obtain ⟨x, t, e⟩ := cfF_ne (k + 1) a b; rw [e]; simp)
          rw [hup] at hy
          have HR := Lib.hid hR
          clear hR
          gi_wp2
          refine HR.out.mono ?_
          rintro e w26 ⟨rfl, hj, hkp⟩
          clear hy HR fx4_0_7 fx4_1_7 fx4_2_7 fx4_3_7
          gi_wp2
          refine bodyPost_ret (results_none rfl _ _ _) rfl ?_
          refine ⟨⟨_, rfl⟩, _, ?_, hj⟩
          rw [← hpre]; congr 1
          unfold cfF; rw [hz, hf, if_neg h1, hup, if_pos h2]
      · have h2' : b < up := Rat.not_le.1 h2
        rw [cmpQ_one h2'] at HC2
        have hne : (a.floor : Rat) ≠ a := by rw [hz, hf]; exact h1
        have hnu : ¬ ((a.floor + 1 : Int) : Rat) ≤ b := by rw [hz, hup]; exact h2
        obtain ⟨_, _, _, p1, p2, d1, d2⟩ := sim_step p0 pab hne hnu
        obtain ⟨QL, QH⟩ := Qb.step A B p0 pab hne hnu
        have hcf : cfF (k + 1) a b = z :: cfF k (b - f)⁻¹ (a - f)⁻¹ := by conv => lhs; unfold cfF; rw [if_neg hne, if_neg hnu, hz, hf]
        rw [hz, hf] at p1 p2 d1 d2 QL QH
        obtain ⟨q1, hq1⟩ : ∃ q : Rat, b - f = q := ⟨_, rfl⟩
        obtain ⟨q2, hq2⟩ : ∃ q : Rat, a - f = q := ⟨_, rfl⟩
        have Q1 : Qb (N + N + 1) q1 := by rw [← hq1]; exact B.sub QF
        have Q2 : Qb (N + N + 1) q2 := by rw [← hq2]; exact A.sub QF
        have R1 : Rq (qn q1) (qs q1) false (qd q1) q1 := Rq.V Q1 (by omega)
        have R2 : Rq (qn q2) (qs q2) false (qd q2) q2 := Rq.V Q2 (by omega)
        have n1 : q1 ≠ 0 := by rw [← hq1]; grind
        have n2 : q2 ≠ 0 := by rw [← hq2]; grind
        rw [hq1] at p1 p2 d1 QL hcf
        rw [hq2] at p2 d2 QH hcf
        obtain ⟨lo, hlo⟩ : ∃ q : Rat, q1⁻¹ = q := ⟨_, rfl⟩
        obtain ⟨hi, hhi⟩ : ∃ q : Rat, q2⁻¹ = q := ⟨_, rfl⟩
        rw [hlo] at p1 p2 d1 QL hcf
        rw [hhi] at p2 d2 QH hcf
        have HS1 := Lib.hid (fun W => show Calls Tryd.prog 19 #[.agg #[.bool (qn b), .string (qs b), .bool false, .string (qd b)], .agg #[.bool (qn f), .string (qs f), .bool false, .string (qd f)]] W (fun e w' => e = .returned (.agg #[.bool (qn q1), .string (qs q1), .bool false, .string (qd q1)]) ∧ Below W.heap.size W w') from by have := cQSub RB RF W; rw [hq1] at this; exact this)
        have HS2 := Lib.hid (fun W => show Calls Tryd.prog 19 #[.agg #[.bool (qn a), .string (qs a), .bool false, .string (qd a)], .agg #[.bool (qn f), .string (qs f), .bool false, .string (qd f)]] W (fun e w' => e = .returned (.agg #[.bool (qn q2), .string (qs q2), .bool false, .string (qd q2)]) ∧ Below W.heap.size W w') from by have := cQSub RA RF W; rw [hq2] at this; exact this)
        have HQ1 := Lib.hid (fun W => show Calls Tryd.prog 21 #[.agg #[.bool (qn one), .string (qs one), .bool false, .string (qd one)], .agg #[.bool (qn q1), .string (qs q1), .bool false, .string (qd q1)]] W (fun e w' => e = .returned (.tuple #[.agg #[.bool (qn lo), .string (qs lo), .bool false, .string (qd lo)], .int .i64 0]) ∧ Below W.heap.size W w') from by have := cQQuo RO R1 n1 W; rw [← hone, q_one_div, hlo, hone] at this; exact this)
        have HQ2 := Lib.hid (fun W => show Calls Tryd.prog 21 #[.agg #[.bool (qn one), .string (qs one), .bool false, .string (qd one)], .agg #[.bool (qn q2), .string (qs q2), .bool false, .string (qd q2)]] W (fun e w' => e = .returned (.tuple #[.agg #[.bool (qn hi), .string (qs hi), .bool false, .string (qd hi)], .int .i64 0]) ∧ Below W.heap.size W w') from by have := cQQuo RO R2 n2 W; rw [← hone, q_one_div, hhi, hone] at this; exact this)
        have fx0_0_0 := (HB0.out.2.2.1).at 0 (.bool (qn a)) rfl
        have fx0_1_0 := (HB0.out.2.2.1).at 1 (.string (qs a)) rfl
        have fx0_2_0 := (HB0.out.2.2.1).at 2 (.bool false) rfl
        have fx0_3_0 := (HB0.out.2.2.1).at 3 (.string (qd a)) rfl
        gi_wp2
        refine ⟨trivial, callsIn_wide.2 ?_⟩
        refine (HFl.out _).mono ?_
        rintro e w21 ⟨rfl, hb⟩
        have HL1 := Lib.hid (bstep HL0.out hb)
        have HB1 := Lib.hid (HB0.out.bel hb)
        have HV1 := Lib.hid (HV0.out.below hb)
        have HJ1 := Lib.hid (hJ _ _ _ HJ0.out ((Own2.refl _ _).below hb))
        clear hb
        clear HL0 HB0 HV0 HJ0 fx0_0_0 fx0_1_0 fx0_2_0 fx0_3_0
        gi_wp2
        refine ⟨trivial, callsIn_wide.2 ?_⟩
        refine (HOf.out _).mono ?_
        rintro e w22 ⟨rfl, hb⟩
        have HL2 := Lib.hid (bstep HL1.out hb)
        have HB2 := Lib.hid (HB1.out.bel hb)
        have HV2 := Lib.hid (HV1.out.below hb)
        have HJ2 := Lib.hid (hJ _ _ _ HJ1.out ((Own2.refl _ _).below hb))
        clear hb
        clear HL1 HB1 HV1 HJ1
        have HO100 := Lib.hid (show Bw2 < w22.heap.size from by have := (HB2.out.1).lt; first | omega | (simp at this; omega))
        have HL3 := Lib.hid (HL2.out.alloc HL2.out.size (.cells #[.bool (qn f), .string (qs f), .bool false, .string (qd f)] 25))
        have HB3 := Lib.hid (HB2.out.push (w22.heap.size) #[.bool (qn f), .string (qs f), .bool false, .string (qd f)] 25 (by first | rfl | simp))
        have HV3 := Lib.hid (HV2.out.new (b := w22.heap.size) ((Below.refl _ _).alloc (Nat.le_refl _) (.cells #[.bool (qn f), .string (qs f), .bool false, .string (qd f)] 25)) (by first | exact Nat.le_refl _ | simp))
        have HJ3 := Lib.hid (hJ _ _ _ HJ2.out ((Own2.refl _ _).below ((Below.refl _ _).alloc (Nat.le_refl _) (.cells #[.bool (qn f), .string (qs f), .bool false, .string (qd f)] 25))))
        clear HL2 HB2 HV2 HJ2
        have fx3_0_3 := (HB3.out.1).at 0 (.bool (qn f)) rfl
        have fx3_1_3 := (HB3.out.1).at 1 (.string (qs f)) rfl
        have fx3_2_3 := (HB3.out.1).at 2 (.bool false) rfl
        have fx3_3_3 := (HB3.out.1).at 3 (.string (qd f)) rfl
        have fx2_0_3 := (HB3.out.2.1).at 0 (.bool (qn one)) rfl
        have fx2_1_3 := (HB3.out.2.1).at 1 (.string (qs one)) rfl
        have fx2_2_3 := (HB3.out.2.1).at 2 (.bool false) rfl
        have fx2_3_3 := (HB3.out.2.1).at 3 (.string (qd one)) rfl
        gi_wp2
        refine ⟨trivial, callsIn_wide.2 ?_⟩
        refine (HAd.out _).mono ?_
        rintro e w23 ⟨rfl, hb⟩
        have HL4 := Lib.hid (bstep HL3.out hb)
        have HB4 := Lib.hid (HB3.out.bel hb)
        have HV4 := Lib.hid (HV3.out.below hb)
        have HJ4 := Lib.hid (hJ _ _ _ HJ3.out ((Own2.refl _ _).below hb))
        clear hb
        clear HL3 HB3 HV3 HJ3 fx3_0_3 fx3_1_3 fx3_2_3 fx3_3_3 fx2_0_3 fx2_1_3 fx2_2_3 fx2_3_3
        have HO101 := Lib.hid (show w22.heap.size < w23.heap.size from by have := (HB4.out.1).lt; first | omega | (simp at this; omega))
        have HL5 := Lib.hid (HL4.out.alloc HL4.out.size (.cells #[.bool (qn up), .string (qs up), .bool false, .string (qd up)] 25))
        have HB5 := Lib.hid (HB4.out.push (w23.heap.size) #[.bool (qn up), .string (qs up), .bool false, .string (qd up)] 25 (by first | rfl | simp))
        have HV5 := Lib.hid (HV4.out.new (b := w23.heap.size) ((Below.refl _ _).alloc (Nat.le_refl _) (.cells #[.bool (qn up), .string (qs up), .bool false, .string (qd up)] 25)) (by first | exact Nat.le_refl _ | simp))
        have HJ5 := Lib.hid (hJ _ _ _ HJ4.out ((Own2.refl _ _).below ((Below.refl _ _).alloc (Nat.le_refl _) (.cells #[.bool (qn up), .string (qs up), .bool false, .string (qd up)] 25))))
        clear HL4 HB4 HV4 HJ4
        have fx3_0_5 := (HB5.out.2.1).at 0 (.bool (qn f)) rfl
        have fx3_1_5 := (HB5.out.2.1).at 1 (.string (qs f)) rfl
        have fx3_2_5 := (HB5.out.2.1).at 2 (.bool false) rfl
        have fx3_3_5 := (HB5.out.2.1).at 3 (.string (qd f)) rfl
        have fx0_0_5 := (HB5.out.2.2.2.2.1).at 0 (.bool (qn a)) rfl
        have fx0_1_5 := (HB5.out.2.2.2.2.1).at 1 (.string (qs a)) rfl
        have fx0_2_5 := (HB5.out.2.2.2.2.1).at 2 (.bool false) rfl
        have fx0_3_5 := (HB5.out.2.2.2.2.1).at 3 (.string (qd a)) rfl
        gi_wp2
        refine ⟨trivial, callsIn_wide.2 ?_⟩
        refine (HC1.out _).mono ?_
        rintro e w24 ⟨rfl, hb⟩
        have HL6 := Lib.hid (bstep HL5.out hb)
        have HB6 := Lib.hid (HB5.out.bel hb)
        have HV6 := Lib.hid (HV5.out.below hb)
        have HJ6 := Lib.hid (hJ _ _ _ HJ5.out ((Own2.refl _ _).below hb))
        clear hb
        clear HL5 HB5 HV5 HJ5 fx3_0_5 fx3_1_5 fx3_2_5 fx3_3_5 fx0_0_5 fx0_1_5 fx0_2_5 fx0_3_5
        have fx4_0_6 := (HB6.out.1).at 0 (.bool (qn up)) rfl
        have fx4_1_6 := (HB6.out.1).at 1 (.string (qs up)) rfl
        have fx4_2_6 := (HB6.out.1).at 2 (.bool false) rfl
        have fx4_3_6 := (HB6.out.1).at 3 (.string (qd up)) rfl
        have fx1_0_6 := (HB6.out.2.2.2.1).at 0 (.bool (qn b)) rfl
        have fx1_1_6 := (HB6.out.2.2.2.1).at 1 (.string (qs b)) rfl
        have fx1_2_6 := (HB6.out.2.2.2.1).at 2 (.bool false) rfl
        have fx1_3_6 := (HB6.out.2.2.2.1).at 3 (.string (qd b)) rfl
        gi_wp2
        refine ⟨trivial, callsIn_wide.2 ?_⟩
        refine (HC2.out _).mono ?_
        rintro e w25 ⟨rfl, hb⟩
        have HL7 := Lib.hid (bstep HL6.out hb)
        have HB7 := Lib.hid (HB6.out.bel hb)
        have HV7 := Lib.hid (HV6.out.below hb)
        have HJ7 := Lib.hid (hJ _ _ _ HJ6.out ((Own2.refl _ _).below hb))
        clear hb
        clear HL6 HB6 HV6 HJ6 fx4_0_6 fx4_1_6 fx4_2_6 fx4_3_6 fx1_0_6 fx1_1_6 fx1_2_6 fx1_3_6
        have fx3_0_7 := (HB7.out.2.1).at 0 (.bool (qn f)) rfl
        have fx3_1_7 := (HB7.out.2.1).at 1 (.string (qs f)) rfl
        have fx3_2_7 := (HB7.out.2.1).at 2 (.bool false) rfl
        have fx3_3_7 := (HB7.out.2.1).at 3 (.string (qd f)) rfl
        obtain ⟨fn, tmps, assign, body, hy, hR⟩ := HHY.out pre z _ HJ7.out (by rw [← hpre, List.length_append, List.length_append]; obtain ⟨x, t, e⟩ := cfF_ne (k + 1) a b; rw [e]; simp)
        rw [hf] at hy
        have HR := Lib.hid hR
        clear hR
        gi_wp2
        refine HR.out.mono ?_
        rintro e w26 ⟨rfl, hj, hkp⟩
        clear hy HR fx3_0_7 fx3_1_7 fx3_2_7 fx3_3_7
        have HLT := Lib.hid (show ∀ x ∈ ([w23.heap.size, w22.heap.size, Bw2, by_, bx] : List Nat), x < _ from by intro x hx; simp only [List.mem_cons, List.not_mem_nil, or_false] at hx; rcases hx with rfl | rfl | rfl | rfl | rfl <;> first | exact (HB7.out.2.2.2.2.1).lt  | exact (HB7.out.2.2.2.1).lt  | exact (HB7.out.2.2.1).lt  | exact (HB7.out.2.1).lt  | exact (HB7.out.1).lt)
        have HB8 := Lib.hid (show Bs [(w23.heap.size, [.bool (qn up), .string (qs up), .bool false, .string (qd up)]), (w22.heap.size, [.bool (qn f), .string (qs f), .bool false, .string (qd f)]), (Bw2, [.bool (qn one), .string (qs one), .bool false, .string (qd one)]), (by_, [.bool (qn b), .string (qs b), .bool false, .string (qd b)]), (bx, [.bool (qn a), .string (qs a), .bool false, .string (qd a)])] w26 from ⟨HV7.out.bc hkp (by simp) (HB7.out.1), ⟨HV7.out.bc hkp (by simp) (HB7.out.2.1), ⟨HV7.out.bc hkp (by simp) (HB7.out.2.2.1), ⟨HV7.out.bc hkp (by simp) (HB7.out.2.2.2.1), ⟨HV7.out.bc hkp (by simp) (HB7.out.2.2.2.2.1), trivial⟩⟩⟩⟩⟩)
        have HV8 := Lib.hid (HV7.out.kp hkp HLT.out)
        have HJ8 := Lib.hid hj
        have HL8 := Lib.hid (Below.refl w26.heap.size w26)
        clear hj hkp HLT HL7 HB7 HV7 HJ7
        gi_wp2
        obtain ⟨Bw22, hB⟩ : ∃ B, w22.heap.size = B := ⟨_, rfl⟩
        rw [hB] at HB8 HV8 ⊢
        try rw [hB] at HO100
        try rw [hB] at HO101
        clear hB
        obtain ⟨Bw23, hB⟩ : ∃ B, w23.heap.size = B := ⟨_, rfl⟩
        rw [hB] at HB8 HV8 ⊢
        try rw [hB] at HO100
        try rw [hB] at HO101
        clear hB
        refine wpIn_wide.2 ?_
        refine wp_region_front 11 zvQ (by kernel_rfl) shQ (by kernel_rfl) (by kernel_rfl) (zvQ_alloc _ (by kernel_rfl)) (shQ_store _ (by kernel_rfl)) ?_
        intro mm BW hm1 hm2 hBW
        haveI := clm_some mm BW
        have fq2_0 : ∀ u : Clm mm BW, u.x.cell? ⟨Bw2, 0, none⟩ = some (.bool (qn one)) := fun u => ((HB8.out.bel (u.old hm1 hBW)).2.2.1).at 0 (.bool (qn one)) rfl
        have fq2_1 : ∀ u : Clm mm BW, u.x.cell? ⟨Bw2, 1, none⟩ = some (.string (qs one)) := fun u => ((HB8.out.bel (u.old hm1 hBW)).2.2.1).at 1 (.string (qs one)) rfl
        have fq2_2 : ∀ u : Clm mm BW, u.x.cell? ⟨Bw2, 2, none⟩ = some (.bool false) := fun u => ((HB8.out.bel (u.old hm1 hBW)).2.2.1).at 2 (.bool false) rfl
        have fq2_3 : ∀ u : Clm mm BW, u.x.cell? ⟨Bw2, 3, none⟩ = some (.string (qd one)) := fun u => ((HB8.out.bel (u.old hm1 hBW)).2.2.1).at 3 (.string (qd one)) rfl
        have fq1_0 : ∀ u : Clm mm BW, u.x.cell? ⟨by_, 0, none⟩ = some (.bool (qn b)) := fun u => ((HB8.out.bel (u.old hm1 hBW)).2.2.2.1).at 0 (.bool (qn b)) rfl
        have fq1_1 : ∀ u : Clm mm BW, u.x.cell? ⟨by_, 1, none⟩ = some (.string (qs b)) := fun u => ((HB8.out.bel (u.old hm1 hBW)).2.2.2.1).at 1 (.string (qs b)) rfl
        have fq1_2 : ∀ u : Clm mm BW, u.x.cell? ⟨by_, 2, none⟩ = some (.bool false) := fun u => ((HB8.out.bel (u.old hm1 hBW)).2.2.2.1).at 2 (.bool false) rfl
        have fq1_3 : ∀ u : Clm mm BW, u.x.cell? ⟨by_, 3, none⟩ = some (.string (qd b)) := fun u => ((HB8.out.bel (u.old hm1 hBW)).2.2.2.1).at 3 (.string (qd b)) rfl
        have fq3_0 : ∀ u : Clm mm BW, u.x.cell? ⟨Bw22, 0, none⟩ = some (.bool (qn f)) := fun u => ((HB8.out.bel (u.old hm1 hBW)).2.1).at 0 (.bool (qn f)) rfl
        have fq3_1 : ∀ u : Clm mm BW, u.x.cell? ⟨Bw22, 1, none⟩ = some (.string (qs f)) := fun u => ((HB8.out.bel (u.old hm1 hBW)).2.1).at 1 (.string (qs f)) rfl
        have fq3_2 : ∀ u : Clm mm BW, u.x.cell? ⟨Bw22, 2, none⟩ = some (.bool false) := fun u => ((HB8.out.bel (u.old hm1 hBW)).2.1).at 2 (.bool false) rfl
        have fq3_3 : ∀ u : Clm mm BW, u.x.cell? ⟨Bw22, 3, none⟩ = some (.string (qd f)) := fun u => ((HB8.out.bel (u.old hm1 hBW)).2.1).at 3 (.string (qd f)) rfl
        simp only [frontOf, unmade, List.take_succ_cons, List.take_zero, List.map_cons, List.map_nil]
        iterate 3 (go_big_quiet_step (fail))
        go_big_quiet_step ((go_at_call 19; exact quiet_clm hm2 HS1.out _))
        go_big_quiet_step ((go_at_call 21; exact quiet_clm hm2 HQ1.out _))
        iterate 6 (go_big_quiet_step (fail))
        refine wpQuiet_nil ?_
        refine ⟨List.forall_mem_cons.2 ⟨by kernel_rfl, List.forall_mem_nil _⟩, ?_⟩
        intro γ w27 hb hF
        clear hBW this hm1 hm2 fq2_0 fq2_1 fq2_2 fq2_3 fq1_0 fq1_1 fq1_2 fq1_3 fq3_0 fq3_1 fq3_2 fq3_3
        clear BW mm
        simp only [madesFrom, Facts, patch, List.take_succ_cons, List.take_zero, List.drop_succ_cons, List.drop_zero, Nat.zero_add, Nat.reduceAdd, List.mem_cons, List.not_mem_nil, or_false, forall_eq, forall_eq_or_imp, false_imp_iff, implies_true, and_true] at hF ⊢
        obtain ⟨hp7, hl7, hk7⟩ := hF
        obtain ⟨B7_27, hG⟩ : ∃ B, γ 8 = B := ⟨_, rfl⟩
        rw [hG] at hp7 hl7 hk7 ⊢
        clear hG
        have HL9 := Lib.hid (bstep HL8.out hb)
        have HO102 := Lib.hid (show Bw23 < B7_27 from Nat.lt_of_lt_of_le (HB8.out.1).lt hp7)
        have HV9 := Lib.hid (HV8.out.new hb hp7)
        have HJ9 := Lib.hid (hJ _ _ _ HJ8.out ((Own2.refl _ _).below hb))
        have HB9 := Lib.hid (Bs.cons (show BC _ B7_27 [.bool (qn lo), .string (qs lo), .bool false, .string (qd lo)] from BC.of hk7) (HB8.out.bel hb))
        clear hb hp7 hl7 hk7
        clear HL8 HB8 HV8 HJ8
        (try go_frame); go_wp2_with fail
        gi_wp2
        refine wpIn_wide.2 ?_
        refine wp_region_front 11 zvQ (by kernel_rfl) shQ (by kernel_rfl) (by kernel_rfl) (zvQ_alloc _ (by kernel_rfl)) (shQ_store _ (by kernel_rfl)) ?_
        intro mm BW hm1 hm2 hBW
        haveI := clm_some mm BW
        have fq2_0 : ∀ u : Clm mm BW, u.x.cell? ⟨Bw2, 0, none⟩ = some (.bool (qn one)) := fun u => ((HB9.out.bel (u.old hm1 hBW)).2.2.2.1).at 0 (.bool (qn one)) rfl
        have fq2_1 : ∀ u : Clm mm BW, u.x.cell? ⟨Bw2, 1, none⟩ = some (.string (qs one)) := fun u => ((HB9.out.bel (u.old hm1 hBW)).2.2.2.1).at 1 (.string (qs one)) rfl
        have fq2_2 : ∀ u : Clm mm BW, u.x.cell? ⟨Bw2, 2, none⟩ = some (.bool false) := fun u => ((HB9.out.bel (u.old hm1 hBW)).2.2.2.1).at 2 (.bool false) rfl
        have fq2_3 : ∀ u : Clm mm BW, u.x.cell? ⟨Bw2, 3, none⟩ = some (.string (qd one)) := fun u => ((HB9.out.bel (u.old hm1 hBW)).2.2.2.1).at 3 (.string (qd one)) rfl
        have fq0_0 : ∀ u : Clm mm BW, u.x.cell? ⟨bx, 0, none⟩ = some (.bool (qn a)) := fun u => ((HB9.out.bel (u.old hm1 hBW)).2.2.2.2.2.1).at 0 (.bool (qn a)) rfl
        have fq0_1 : ∀ u : Clm mm BW, u.x.cell? ⟨bx, 1, none⟩ = some (.string (qs a)) := fun u => ((HB9.out.bel (u.old hm1 hBW)).2.2.2.2.2.1).at 1 (.string (qs a)) rfl
        have fq0_2 : ∀ u : Clm mm BW, u.x.cell? ⟨bx, 2, none⟩ = some (.bool false) := fun u => ((HB9.out.bel (u.old hm1 hBW)).2.2.2.2.2.1).at 2 (.bool false) rfl
        have fq0_3 : ∀ u : Clm mm BW, u.x.cell? ⟨bx, 3, none⟩ = some (.string (qd a)) := fun u => ((HB9.out.bel (u.old hm1 hBW)).2.2.2.2.2.1).at 3 (.string (qd a)) rfl
        have fq3_0 : ∀ u : Clm mm BW, u.x.cell? ⟨Bw22, 0, none⟩ = some (.bool (qn f)) := fun u => ((HB9.out.bel (u.old hm1 hBW)).2.2.1).at 0 (.bool (qn f)) rfl
        have fq3_1 : ∀ u : Clm mm BW, u.x.cell? ⟨Bw22, 1, none⟩ = some (.string (qs f)) := fun u => ((HB9.out.bel (u.old hm1 hBW)).2.2.1).at 1 (.string (qs f)) rfl
        have fq3_2 : ∀ u : Clm mm BW, u.x.cell? ⟨Bw22, 2, none⟩ = some (.bool false) := fun u => ((HB9.out.bel (u.old hm1 hBW)).2.2.1).at 2 (.bool false) rfl
        have fq3_3 : ∀ u : Clm mm BW, u.x.cell? ⟨Bw22, 3, none⟩ = some (.string (qd f)) := fun u => ((HB9.out.bel (u.old hm1 hBW)).2.2.1).at 3 (.string (qd f)) rfl
        simp only [frontOf, unmade, List.take_succ_cons, List.take_zero, List.map_cons, List.map_nil]
        iterate 3 (go_big_quiet_step (fail))
        go_big_quiet_step ((go_at_call 19; exact quiet_clm hm2 HS2.out _))
        go_big_quiet_step ((go_at_call 21; exact quiet_clm hm2 HQ2.out _))
        iterate 6 (go_big_quiet_step (fail))
        refine wpQuiet_nil ?_
        refine ⟨List.forall_mem_cons.2 ⟨by kernel_rfl, List.forall_mem_nil _⟩, ?_⟩
        intro γ w28 hb hF
        clear hBW this hm1 hm2 fq2_0 fq2_1 fq2_2 fq2_3 fq0_0 fq0_1 fq0_2 fq0_3 fq3_0 fq3_1 fq3_2 fq3_3
        clear BW mm
        simp only [madesFrom, Facts, patch, List.take_succ_cons, List.take_zero, List.drop_succ_cons, List.drop_zero, Nat.zero_add, Nat.reduceAdd, List.mem_cons, List.not_mem_nil, or_false, forall_eq, forall_eq_or_imp, false_imp_iff, implies_true, and_true] at hF ⊢
        obtain ⟨hp9, hl9, hk9⟩ := hF
        obtain ⟨B9_28, hG⟩ : ∃ B, γ 8 = B := ⟨_, rfl⟩
        rw [hG] at hp9 hl9 hk9 ⊢
        clear hG
        have HL10 := Lib.hid (bstep HL9.out hb)
        have HO103 := Lib.hid (show B7_27 < B9_28 from Nat.lt_of_lt_of_le (HB9.out.1).lt hp9)
        have HV10 := Lib.hid (HV9.out.new hb hp9)
        have HJ10 := Lib.hid (hJ _ _ _ HJ9.out ((Own2.refl _ _).below hb))
        have HB10 := Lib.hid (Bs.cons (show BC _ B9_28 [.bool (qn hi), .string (qs hi), .bool false, .string (qd hi)] from BC.of hk9) (HB9.out.bel hb))
        clear hb hp9 hl9 hk9
        clear HL9 HB9 HV9 HJ9
        (try go_frame); go_wp2_with fail
        gi_wp2
        obtain ⟨W29, hW⟩ : ∃ W, w28 = W := ⟨_, rfl⟩
        rw [hW] at HB10 HL10 HV10 HJ10 ⊢
        clear hW
        have fx5_0_10 := (HB10.out.2.1).at 0 (.bool (qn lo)) rfl
        have fx5_1_10 := (HB10.out.2.1).at 1 (.string (qs lo)) rfl
        have fx5_2_10 := (HB10.out.2.1).at 2 (.bool false) rfl
        have fx5_3_10 := (HB10.out.2.1).at 3 (.string (qd lo)) rfl
        have fx6_0_10 := (HB10.out.1).at 0 (.bool (qn hi)) rfl
        have fx6_1_10 := (HB10.out.1).at 1 (.string (qs hi)) rfl
        have fx6_2_10 := (HB10.out.1).at 2 (.bool false) rfl
        have fx6_3_10 := (HB10.out.1).at 3 (.string (qd hi)) rfl
        have fx0_0_10 := (HB10.out.2.2.2.2.2.2.1).at 0 (.bool (qn a)) rfl
        have fz0_0_10 := (HB10.out.2.2.2.2.2.2.1).z 0 (show 0 < 4 by decide)
        have fx0_1_10 := (HB10.out.2.2.2.2.2.2.1).at 1 (.string (qs a)) rfl
        have fz0_1_10 := (HB10.out.2.2.2.2.2.2.1).z 1 (show 1 < 4 by decide)
        have fx0_2_10 := (HB10.out.2.2.2.2.2.2.1).at 2 (.bool false) rfl
        have fz0_2_10 := (HB10.out.2.2.2.2.2.2.1).z 2 (show 2 < 4 by decide)
        have fx0_3_10 := (HB10.out.2.2.2.2.2.2.1).at 3 (.string (qd a)) rfl
        have fz0_3_10 := (HB10.out.2.2.2.2.2.2.1).z 3 (show 3 < 4 by decide)
        have fx1_0_10 := (HB10.out.2.2.2.2.2.1).at 0 (.bool (qn b)) rfl
        have fz1_0_10 := (HB10.out.2.2.2.2.2.1).z 0 (show 0 < 4 by decide)
        have fx1_1_10 := (HB10.out.2.2.2.2.2.1).at 1 (.string (qs b)) rfl
        have fz1_1_10 := (HB10.out.2.2.2.2.2.1).z 1 (show 1 < 4 by decide)
        have fx1_2_10 := (HB10.out.2.2.2.2.2.1).at 2 (.bool false) rfl
        have fz1_2_10 := (HB10.out.2.2.2.2.2.1).z 2 (show 2 < 4 by decide)
        have fx1_3_10 := (HB10.out.2.2.2.2.2.1).at 3 (.string (qd b)) rfl
        have fz1_3_10 := (HB10.out.2.2.2.2.2.1).z 3 (show 3 < 4 by decide)
        have HE1 : J (pre ++ [z]) (setCs by_ (setCs bx W29 0 [.bool (qn lo), .string (qs lo), .bool false, .string (qd lo)]) 0 [.bool (qn hi), .string (qs hi), .bool false, .string (qd hi)]) ∧ Bs [(Bw2, [.bool (qn one), .string (qs one), .bool false, .string (qd one)]), (by_, [.bool (qn hi), .string (qs hi), .bool false, .string (qd hi)]), (bx, [.bool (qn lo), .string (qs lo), .bool false, .string (qd lo)])] (setCs by_ (setCs bx W29 0 [.bool (qn lo), .string (qs lo), .bool false, .string (qd lo)]) 0 [.bool (qn hi), .string (qs hi), .bool false, .string (qd hi)]) ∧ Vw L [Bw2, by_, bx] (setCs by_ (setCs bx W29 0 [.bool (qn lo), .string (qs lo), .bool false, .string (qd lo)]) 0 [.bool (qn hi), .string (qs hi), .bool false, .string (qd hi)]) := by
          refine ⟨hJ _ _ _ HJ10.out (((((((((Own2.refl _ _).setCell (p := ⟨bx, 0, none⟩) (.inl rfl) _).setCell (p := ⟨bx, 1, none⟩) (.inl rfl) _).setCell (p := ⟨bx, 2, none⟩) (.inl rfl) _).setCell (p := ⟨bx, 3, none⟩) (.inl rfl) _).setCell (p := ⟨by_, 0, none⟩) (.inr rfl) _).setCell (p := ⟨by_, 1, none⟩) (.inr rfl) _).setCell (p := ⟨by_, 2, none⟩) (.inr rfl) _).setCell (p := ⟨by_, 3, none⟩) (.inr rfl) _), ⟨?_, ?_, ?_, trivial⟩, ?_⟩
          · exact BC.otherCs (by omega) _ _ 0 (BC.otherCs (by omega) _ _ 0 (HB10.out.2.2.2.2.1))
          · exact BC.setCs _ _ [.bool (qn b), .string (qs b), .bool false, .string (qd b)] 0 (show 4 ≤ 4 by decide) (BC.otherCs (by omega) _ _ 0 (HB10.out.2.2.2.2.2.1))
          · exact BC.otherCs (by omega) _ _ 0 (BC.setCs _ _ [.bool (qn a), .string (qs a), .bool false, .string (qd a)] 0 (show 4 ≤ 4 by decide) (HB10.out.2.2.2.2.2.2.1))
          · exact Vw.setCs (by simp) _ _ 0 (Vw.setCs (by simp) _ _ 0 (HV10.out.sub (by simp)))
        simp only [setCs, Nat.zero_add, Nat.reduceAdd] at HE1
        replace HE1 := Lib.hid HE1
        have hne1 : bx ≠ by_ := by omega
        have hne2 : by_ ≠ bx := by omega
        have hnB7_27bx : ¬ bx = B7_27 := by have := HO100.out; have := HO101.out; have := HO102.out; have := HO103.out; have := hbxy; have := HOX; omega
        have hmB7_27bx : ¬ B7_27 = bx := fun e => hnB7_27bx e.symm
        have hnB7_27by_ : ¬ by_ = B7_27 := by have := HO100.out; have := HO101.out; have := HO102.out; have := HO103.out; have := hbxy; have := HOX; omega
        have hmB7_27by_ : ¬ B7_27 = by_ := fun e => hnB7_27by_ e.symm
        have hnB9_28bx : ¬ bx = B9_28 := by have := HO100.out; have := HO101.out; have := HO102.out; have := HO103.out; have := hbxy; have := HOX; omega
        have hmB9_28bx : ¬ B9_28 = bx := fun e => hnB9_28bx e.symm
        have hnB9_28by_ : ¬ by_ = B9_28 := by have := HO100.out; have := HO101.out; have := HO102.out; have := HO103.out; have := hbxy; have := HOX; omega
        have hmB9_28by_ : ¬ B9_28 = by_ := fun e => hnB9_28by_ e.symm
        have HPRE := Lib.hid hpre
        clear HL10 HB10 HV10 HJ10 hpre
        refine wpIn_wide.2 ?_
        go_region
        obtain ⟨Y, hY⟩ : ∃ Y, ((((((((W29.setCell ⟨bx, 0, none⟩ (.bool (qn lo))).setCell ⟨bx, 1, none⟩ (.string (qs lo))).setCell ⟨bx, 2, none⟩ (.bool false)).setCell ⟨bx, 3, none⟩ (.string (qd lo))).setCell ⟨by_, 0, none⟩ (.bool (qn hi))).setCell ⟨by_, 1, none⟩ (.string (qs hi))).setCell ⟨by_, 2, none⟩ (.bool false)).setCell ⟨by_, 3, none⟩ (.string (qd hi))) = Y := ⟨_, rfl⟩
        rw [hY] at HE1 ⊢
        clear hY fx5_0_10 fx5_1_10 fx5_2_10 fx5_3_10 fx6_0_10 fx6_1_10 fx6_2_10 fx6_3_10 fx0_0_10 fz0_0_10 fx0_1_10 fz0_1_10 fx0_2_10 fz0_2_10 fx0_3_10 fz0_3_10 fx1_0_10 fz1_0_10 fx1_1_10 fz1_1_10 fx1_2_10 fz1_2_10 fx1_3_10 fz1_3_10 hnB7_27bx hmB7_27bx hnB7_27by_ hmB7_27by_ hnB9_28bx hmB9_28bx hnB9_28by_ hmB9_28by_
        have hXB : Below Y.heap.size Y Y.drew := ⟨rfl, rfl, rfl, Nat.le_refl _, fun _ _ => rfl⟩
        obtain ⟨X, hX⟩ : ∃ X, Y.drew = X := ⟨_, rfl⟩
        rw [hX] at hXB ⊢
        have HEND : Hid (J (pre ++ [z]) X ∧ Bs [(Bw2, [.bool (qn one), .string (qs one), .bool false, .string (qd one)]), (by_, [.bool (qn hi), .string (qs hi), .bool false, .string (qd hi)]), (bx, [.bool (qn lo), .string (qs lo), .bool false, .string (qd lo)])] X ∧ Vw L [Bw2, by_, bx] X) := Lib.hid ⟨hJ _ _ _ HE1.out.1 ((Own2.refl _ _).below hXB), HE1.out.2.1.bel hXB, HE1.out.2.2.below hXB⟩
        clear hX hXB HE1
        all_goals (
          gi_wp2
          gi_roundg (k + 1)
          case rel =>
            refine ⟨pre ++ [z], k, lo, hi, ?_, ?_, p1, p2, by omega, QL, QH, HEND.out.1, HEND.out.2.1, HEND.out.2.2⟩
            · omega
            · rw [← HPRE.out, hcf, List.append_assoc]; rfl
          case measure => have := HG.out; omega)
end Go.Proofs.Gv
