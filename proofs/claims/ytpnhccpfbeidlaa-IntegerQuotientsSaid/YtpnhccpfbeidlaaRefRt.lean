/- The reference implementation of integers: Root. -/
import Derived.Test.YtpnhccpfbeidlaaRefPwr
import Derived.Test.YtpnhccpfbeidlaaRootI
namespace Go.Proofs.Gv
open Go Go.RowKit

theorem rpN {x M : Nat} (h : x < 2 ^ M) (hM : M ≤ 800000) : Rp false (mg x) x ∧ (mg x).size ≤ 100000 := by
  have hs : (mg x).size ≤ 100000 := Nat.le_trans (szB ((M + 7) / 8) (Nat.lt_of_lt_of_le h (Nat.pow_le_pow_right (by decide) (by omega)))) (by omega)
  exact ⟨⟨by unfold iv; simp [bv_mg], by omega⟩, hs⟩
theorem sgnN (x : Nat) : sgn (x : Int) = false := decide_eq_false (by omega)
theorem rMulN {x y M : Nat} (hx : x < 2 ^ M) (hy : y < 2 ^ M) (hM : M ≤ 800000) (X : World) :
    Calls Try.prog 19 #[.agg #[.bool false, .string (mg x)], .agg #[.bool false, .string (mg y)]] X fun e w' => e = .returned (.agg #[.bool false, .string (mg (x * y))]) ∧ Below X.heap.size X w' := by
  have := rMul_any _ _ _ _ (x : Int) (y : Int) X (rpN hx hM).1 (rpN hy hM).1 (rpN hx hM).2 (rpN hy hM).2
  unfold RetI at this
  rwa [← Int.natCast_mul, sgnN, Int.natAbs_natCast] at this
theorem rAddN {x y M : Nat} (hx : x < 2 ^ M) (hy : y < 2 ^ M) (hM : M ≤ 800000) (X : World) :
    Calls Try.prog 15 #[.agg #[.bool false, .string (mg x)], .agg #[.bool false, .string (mg y)]] X fun e w' => e = .returned (.agg #[.bool false, .string (mg (x + y))]) ∧ Below X.heap.size X w' := by
  have := rAdd_any _ _ _ _ (x : Int) (y : Int) X (rpN hx hM).1 (rpN hy hM).1 (rpN hx hM).2 (rpN hy hM).2
  unfold RetI at this
  rwa [← Int.natCast_add, sgnN, Int.natAbs_natCast] at this
theorem rCmpN {x y M : Nat} (hx : x < 2 ^ M) (hy : y < 2 ^ M) (hM : M ≤ 800000) (X : World) :
    Calls Try.prog 39 #[.agg #[.bool false, .string (mg x)], .agg #[.bool false, .string (mg y)]] X fun e w' => e = .returned (.int .i64 (cmpI (x : Int) (y : Int))) ∧ Below X.heap.size X w' :=
  rCompare_any _ _ _ _ (x : Int) (y : Int) X (rpN hx hM).1 (rpN hy hM).1
theorem rBitsN {x M : Nat} (hx : x < 2 ^ M) (hM : M ≤ 800000) (X : World) :
    Calls Try.prog 40 #[.agg #[.bool false, .string (mg x)]] X fun e w' => e = .returned (.int .i64 (bl x : Nat)) ∧ Below X.heap.size X w' := by
  have := rBits_any false (mg x) X (Nat.le_trans (rpN hx hM).2 (by decide))
  rwa [bv_mg] at this

/-- The boxes of atMost: the number, the bound, the power. -/
structure AmSt (w W : World) (b7 X A O : Nat) : Prop where
  be : Below w.heap.size w W
  x : Bx W w.heap.size false (mg X)
  a : Bx W (w.heap.size + 1) false (mg A)
  o : Bx W b7 false (mg O)
  l7 : w.heap.size + 1 < b7
theorem AmSt.below {w W W' : World} {b7 X A O : Nat} (h : AmSt w W b7 X A O) (hb : Below W.heap.size W W') : AmSt w W' b7 X A O :=
  ⟨bstep h.be hb, h.x.below hb, h.a.below hb, h.o.below hb, h.l7⟩
theorem AmSt.set {w W : World} {b7 X A O : Nat} (h : AmSt w W b7 X A O) (z : Nat) : AmSt w ((W.setCell ⟨b7, 0, none⟩ (.bool false)).setCell ⟨b7, 1, none⟩ (.string (mg z))) b7 X A z := by
  have h1 := h.l7
  exact ⟨(h.be.setCell (p := ⟨b7, 0, none⟩) (by show w.heap.size ≤ b7; omega) _).setCell (p := ⟨b7, 1, none⟩) (by show w.heap.size ≤ b7; omega) _, h.x.other (by omega), h.a.other (by omega), h.o.set, h.l7⟩
theorem cmp_le {x y : Nat} (h : x ≤ y) : ¬ 0 < cmpI (x : Int) (y : Int) := by
  unfold cmpI
  split
  · omega
  · split <;> omega
theorem cmp_gt {x y : Nat} (h : y < x) : 0 < cmpI (x : Int) (y : Int) := by
  unfold cmpI
  rw [if_neg (by omega)]
  split <;> omega

set_option maxRecDepth 100000 in
set_option maxHeartbeats 4000000 in
theorem ratMost_any (X A n M : Nat) (w : World) (hX : 1 ≤ X) (hA : 1 ≤ A) (hXM : X < 2 ^ M) (hAM : A < 2 ^ M) (hM : M ≤ 400000) (hn : n ≤ 4096) :
    Calls Try.prog 63 #[.agg #[.bool false, .string (mg X)], .int .i64 n, .agg #[.bool false, .string (mg A)]] w fun e w' => e = .returned (.bool (decide (X ^ n ≤ A))) ∧ Below w.heap.size w w' := by
  obtain ⟨u0, hu0⟩ : ∃ u, X ^ 0 = u := ⟨_, rfl⟩
  have HOf := Lib.hid (fun Y => show Calls Try.prog 36 #[.int .i64 1] Y (fun e w' => e = .returned (.agg #[.bool false, .string (mg u0)]) ∧ Below Y.heap.size Y w') from by rw [← hu0, Nat.pow_zero]; exact rOf_any 1 Y (by omega) (by omega))
  have HU0 := Lib.hid hu0
  have HXM := Lib.hid hXM
  have HAM := Lib.hid hAM
  have HX1 := Lib.hid hX
  have HA1 := Lib.hid hA
  obtain ⟨D, hD⟩ : ∃ D, decide (X ^ n ≤ A) = D := ⟨_, rfl⟩
  have HD := Lib.hid hD
  rw [hD]
  clear hu0 hXM hAM hX hA hD
  have HS0 := Lib.hid (((Below.refl w.heap.size w).alloc (Nat.le_refl _) (.cells #[.bool false, .string (mg X)] 23)).alloc (by simp) (.cells #[.bool false, .string (mg A)] 23))
  have HBX := Lib.hid ((Bx.new w w.heap.size false (mg X) rfl).alloc (.cells #[.bool false, .string (mg A)] 23))
  have HBA := Lib.hid (Bx.new (w.alloc (.cells #[.bool false, .string (mg X)] 23)) (w.heap.size + 1) false (mg A) (by simp))
  go_enter Try.func63, Try.ntmps63
  go_upto_region 1 with fail
  obtain ⟨W, hW⟩ : ∃ W, (w.alloc (.cells #[.bool false, .string (mg X)] 23)).alloc (.cells #[.bool false, .string (mg A)] 23) = W := ⟨_, rfl⟩
  rw [hW] at HS0 HBX HBA ⊢
  clear hW
  go_wp2_with (go_at_call 36; refine (HOf.out _).mono ?_; rintro e W1 ⟨rfl, hb⟩)
  have hl1 := HBA.out.lt
  have hz := hb.size
  have HS := Lib.hid (show AmSt w (W1.alloc (.cells #[.bool false, .string (mg u0)] 23)) W1.heap.size X A u0 from
    ⟨(bstep HS0.out hb).alloc (bstep HS0.out hb).size _, (HBX.out.below hb).alloc _, (HBA.out.below hb).alloc _, Bx.new W1 W1.heap.size false (mg u0) rfl, by omega⟩)
  obtain ⟨b7, hb7⟩ : ∃ b, W1.heap.size = b := ⟨_, rfl⟩
  obtain ⟨W2, hW2⟩ : ∃ W2, W1.alloc (.cells #[.bool false, .string (mg u0)] 23) = W2 := ⟨_, rfl⟩
  rw [hW2, hb7] at HS
  rw [hW2, hb7]
  clear hW2 hb7 hl1 hz hb HS0 HBX HBA HOf
  go_loopg [8] (n + 1) (fun gg v8 wr => ∃ i O : Nat, v8 = .int .i64 i ∧ i ≤ n ∧ n - i < gg ∧ O = X ^ i ∧ O ≤ A ∧ AmSt w wr b7 X A O)
  case atStart => exact ⟨0, u0, rfl, Nat.zero_le _, by omega, HU0.out.symm, by rw [← HU0.out, Nat.pow_zero]; exact HA1.out, HS.out⟩
  case round =>
    clear HS
    obtain ⟨i, O, rfl, hi, hg, hO, hOA, hs⟩ := hrel
    have HGG := Lib.hid hg
    have HO := Lib.hid hO
    have HOA := Lib.hid hOA
    have HS := Lib.hid hs
    clear hg hO hOA hs
    by_cases hin : i < n
    · obtain ⟨x0, x1, x2, x3, _⟩ := id HS.out.x
      obtain ⟨a0, a1, a2, a3, _⟩ := id HS.out.a
      obtain ⟨o0, o1, o2, o3, _⟩ := id HS.out.o
      have hOM : O < 2 ^ M := Nat.lt_of_le_of_lt HOA.out HAM.out
      have HMu := Lib.hid (fun Y => rMulN hOM HXM.out (by omega) Y)
      have hPM : O * X < 2 ^ (M + M) := mul_bits hOM HXM.out
      have HCm := Lib.hid (fun Y => rCmpN hPM (bits_up (M + M) HAM.out (by omega)) (by omega) Y)
      obtain ⟨P, hP⟩ : ∃ P, O * X = P := ⟨_, rfl⟩
      rw [hP] at HMu HCm
      have HP := Lib.hid (show P = X ^ (i + 1) by rw [Nat.pow_succ, ← HO.out, hP])
      clear hP hOM hPM
      by_cases hPA : P ≤ A
      · have hc := cmp_le hPA
        obtain ⟨c, hcc⟩ : ∃ c, cmpI (P : Int) (A : Int) = c := ⟨_, rfl⟩
        rw [hcc] at HCm hc
        have HPA := Lib.hid hPA
        clear hcc hPA
        go_wp2_with (first
          | (go_at_call 19; refine (HMu.out _).mono ?_; rintro e W1 ⟨rfl, hb⟩; have HS1 := Lib.hid (HS.out.below hb); clear hb o0 o1 o2 o3 x0 x1 x2 x3 a0 a1 a2 a3; obtain ⟨o0, o1, o2, o3, _⟩ := id HS1.out.o; obtain ⟨a0, a1, a2, a3, _⟩ := id (HS1.out.set P).a; obtain ⟨p0, p1, p2, p3, _⟩ := id (HS1.out.set P).o)
          | (go_at_call 39; refine (HCm.out _).mono ?_; rintro e W2 ⟨rfl, hb⟩; have HS2 := Lib.hid ((HS1.out.set P).below hb); clear hb))
        go_roundg (n - i)
        case rel => exact ⟨i + 1, P, by go_num, by omega, by omega, HP.out, HPA.out, HS2.out⟩
        case measure => exact HGG.out
      · have hc := cmp_gt (show A < P by omega)
        obtain ⟨c, hcc⟩ : ∃ c, cmpI (P : Int) (A : Int) = c := ⟨_, rfl⟩
        rw [hcc] at HCm hc
        have HF := Lib.hid (show D = false by
          rw [← HD.out]
          refine decide_eq_false fun h => ?_
          have h2 : X ^ (i + 1) ≤ X ^ n := Nat.pow_le_pow_right HX1.out (by omega)
          rw [← HP.out] at h2
          omega)
        clear hcc hPA
        go_wp2_with (first
          | (go_at_call 19; refine (HMu.out _).mono ?_; rintro e W1 ⟨rfl, hb⟩; have HS1 := Lib.hid (HS.out.below hb); clear hb o0 o1 o2 o3 x0 x1 x2 x3 a0 a1 a2 a3; obtain ⟨o0, o1, o2, o3, _⟩ := id HS1.out.o; obtain ⟨a0, a1, a2, a3, _⟩ := id (HS1.out.set P).a; obtain ⟨p0, p1, p2, p3, _⟩ := id (HS1.out.set P).o)
          | (go_at_call 39; refine (HCm.out _).mono ?_; rintro e W2 ⟨rfl, hb⟩; have HS2 := Lib.hid ((HS1.out.set P).below hb); clear hb))
        go_ret
        exact ⟨by rw [HF.out]; rfl, HS2.out.be⟩
    · obtain rfl : i = n := by omega
      have HF := Lib.hid (show D = true by rw [← HD.out]; exact decide_eq_true (by rw [← HO.out]; exact HOA.out))
      go_wp2
      go_ret
      exact ⟨by rw [HF.out]; rfl, HS.out.be⟩
end Go.Proofs.Gv

namespace Go.Proofs.Gv
open Go Go.RowKit
/-- The boxes of Root: the number, the result, the root. -/
structure RrSt (w W : World) (b6 A R : Nat) : Prop where
  be : Below w.heap.size w W
  a : Bx W w.heap.size false (mg A)
  r : Bx W (w.heap.size + 1) false ⟨#[]⟩
  o : Bx W b6 false (mg R)
  l6 : w.heap.size + 1 < b6
theorem RrSt.below {w W W' : World} {b6 A R : Nat} (h : RrSt w W b6 A R) (hb : Below W.heap.size W W') : RrSt w W' b6 A R :=
  ⟨bstep h.be hb, h.a.below hb, h.r.below hb, h.o.below hb, h.l6⟩
theorem RrSt.set {w W : World} {b6 A R : Nat} (h : RrSt w W b6 A R) (z : Nat) : RrSt w ((W.setCell ⟨b6, 0, none⟩ (.bool false)).setCell ⟨b6, 1, none⟩ (.string (mg z))) b6 A z := by
  have h1 := h.l6
  exact ⟨(h.be.setCell (p := ⟨b6, 0, none⟩) (by show w.heap.size ≤ b6; omega) _).setCell (p := ⟨b6, 1, none⟩) (by show w.heap.size ≤ b6; omega) _, h.a.other (by omega), h.r.other (by omega), h.o.set, h.l6⟩
theorem root_bits {X A n : Nat} (hX : 1 ≤ X) (h : bl A ≤ bl X * n - n) : A < X ^ n := by
  have h1 : 2 ^ (bl X - 1) ≤ X := (bl_spec (by omega)).2.1
  have h2 : A < 2 ^ bl A := bl_le_iff.1 (Nat.le_refl _)
  have h3 : (2 ^ (bl X - 1)) ^ n ≤ X ^ n := Nat.pow_le_pow_left h1 n
  rw [← Nat.pow_mul, Nat.sub_mul, Nat.one_mul] at h3
  exact Nat.lt_of_lt_of_le (Nat.lt_of_lt_of_le h2 (Nat.pow_le_pow_right (by decide) h)) h3
theorem root_start {A n : Nat} (hn : 1 ≤ n) : A < (0 + 2 ^ (bl A / n + 1)) ^ n := by
  rw [Nat.zero_add, ← Nat.pow_mul]
  have h2 : A < 2 ^ bl A := bl_le_iff.1 (Nat.le_refl _)
  refine Nat.lt_of_lt_of_le h2 (Nat.pow_le_pow_right (by decide) ?_)
  rw [Nat.add_mul, Nat.one_mul, Nat.mul_comm]
  have := Nat.div_add_mod (bl A) n
  have := Nat.mod_lt (bl A) (show 0 < n by omega)
  omega
theorem root_le {R A n : Nat} (hn : 1 ≤ n) (h : R ^ n ≤ A) : R ≤ A := Nat.le_trans (Nat.le_self_pow (by omega) R) h

set_option maxRecDepth 100000 in
set_option maxHeartbeats 4000000 in
theorem rRoot_main (na : Bool) (sa : ByteArray) (n A : Nat) (w : World) (ha : sa.size ≤ 30000) (hA : iv na sa = A) (hn1 : 1 ≤ n) (hn2 : n ≤ 4096) :
    Calls Try.prog 24 #[.agg #[.bool na, .string sa], .int .i64 n] w (RetIE w (nrt n A : Nat) 0) := by
  have HCn := Lib.hid (fun X => show Calls Try.prog 48 #[.agg #[.bool na, .string sa]] X (fun e w' => e = .returned (.agg #[.bool false, .string (mg A)]) ∧ Below X.heap.size X w') from by
    have := rcanon_any na sa X (by omega)
    unfold RetI at this
    rwa [hA, sgnN, Int.natAbs_natCast] at this)
  have hAb : A = bv sa.data.toList := by have := iv_abs na sa; rw [hA] at this; omega
  obtain ⟨M, hM⟩ : ∃ M, 8 * 30000 = M := ⟨_, rfl⟩
  have hbA : bl A ≤ M := by rw [← hM, hAb]; exact bl_size sa ha
  have hAM : A < 2 ^ M := bl_le_iff.1 hbA
  have HBt := Lib.hid (fun X => rBitsN hAM (by omega) X)
  have HAM := Lib.hid hAM
  have HN := Lib.hid hn1
  have HN2 := Lib.hid hn2
  have HMM := Lib.hid (show M = 240000 by omega)
  have HST := Lib.hid (root_start (A := A) hn1)
  obtain ⟨p, hp⟩ : ∃ p, bl A = p := ⟨_, rfl⟩
  rw [hp] at HBt HST hbA
  have HP := Lib.hid hp
  have HPM := Lib.hid hbA
  have hpb : (p : Int) ≤ 240000 := by omega
  clear hA hAb hM hAM hp ha hbA
  have n0 : decide ((n : Int) < 1) = false := decide_eq_false (by omega)
  have n1 : decide ((4096 : Int) < n) = false := decide_eq_false (by omega)
  have n2 : (0 : Int) < n := by omega
  have n3 : ¬ (n : Int) = 0 := by omega
  have n4 : (n : Int) ≤ 4096 := by omega
  clear hn1 hn2
  have HL0 := Lib.hid (((Below.refl w.heap.size w).alloc (Nat.le_refl _) (.cells #[.bool na, .string sa] 23)).alloc (by simp) (.cells #[.bool false, .string ⟨#[]⟩] 23))
  have HB0 := Lib.hid ((Bx.new w w.heap.size na sa rfl).alloc (.cells #[.bool false, .string ⟨#[]⟩] 23))
  have HB1 := Lib.hid (Bx.new (w.alloc (.cells #[.bool na, .string sa] 23)) (w.heap.size + 1) false ⟨#[]⟩ (by simp))
  go_enter Try.func24, Try.ntmps24
  go_upto_region 1 with fail
  obtain ⟨W, hW⟩ : ∃ W, (w.alloc (.cells #[.bool na, .string sa] 23)).alloc (.cells #[.bool false, .string ⟨#[]⟩] 23) = W := ⟨_, rfl⟩
  rw [hW] at HL0 HB0 HB1 ⊢
  clear hW
  obtain ⟨x0, x1, x2, x3, _⟩ := id HB0.out
  go_upto_region 2 with (go_at_call 48; refine (HCn.out _).mono ?_; rintro e W1 ⟨rfl, hb⟩; have HL1 := Lib.hid (bstep HL0.out hb); have HX1 := Lib.hid (HB0.out.below hb); have HR1 := Lib.hid (HB1.out.below hb); clear hb x0 x1 x2 x3; obtain ⟨x0, x1, x2, x3, _⟩ := id HX1.out)
  have HX2 := Lib.hid (HX1.out.set (n' := false) (s' := mg A))
  have HR2 := Lib.hid (HR1.out.other (u := .bool false) (v := .string (mg A)) (show w.heap.size + 1 ≠ w.heap.size by omega))
  have HL2 := Lib.hid ((HL1.out.setCell (p := ⟨w.heap.size, 0, none⟩) (Nat.le_refl _) (.bool false)).setCell (p := ⟨w.heap.size, 1, none⟩) (Nat.le_refl _) (.string (mg A)))
  obtain ⟨W2, hW2⟩ : ∃ W2, (W1.setCell ⟨w.heap.size, 0, none⟩ (.bool false)).setCell ⟨w.heap.size, 1, none⟩ (.string (mg A)) = W2 := ⟨_, rfl⟩
  rw [hW2] at HX2 HR2 HL2 ⊢
  clear hW2 x0 x1 x2 x3 HX1 HR1 HL1 HL0 HB0 HB1 HCn
  obtain ⟨x0, x1, x2, x3, _⟩ := id HX2.out
  go_upto_region 5 with fail
  have hl := HR2.out.lt
  have HS0 := Lib.hid (show RrSt w (W2.alloc (.cells #[.bool false, .string ⟨#[]⟩] 23)) W2.heap.size A 0 from
    ⟨HL2.out.alloc HL2.out.size _, HX2.out.alloc _, HR2.out.alloc _, by rw [mg_zero]; exact Bx.new W2 W2.heap.size false ⟨#[]⟩ rfl, hl⟩)
  obtain ⟨b6, hb6⟩ : ∃ b, W2.heap.size = b := ⟨_, rfl⟩
  obtain ⟨W3, hW3⟩ : ∃ W3, W2.alloc (.cells #[.bool false, .string ⟨#[]⟩] 23) = W3 := ⟨_, rfl⟩
  rw [hW3, hb6] at HS0
  rw [hW3, hb6]
  clear hW3 hb6 hl HX2 HR2 HL2 x0 x1 x2 x3
  obtain ⟨x0, x1, x2, x3, _⟩ := id HS0.out.a
  obtain ⟨D, hD⟩ : ∃ D, p / n = D := ⟨_, rfl⟩
  have hDb : D ≤ 240000 := by rw [← hD]; have := Nat.div_le_self p n; omega
  have HDP := Lib.hid (show D ≤ p by rw [← hD]; exact Nat.div_le_self p n)
  have hq : (p : Int) / (n : Int) = (D : Int) := by rw [← hD]; rfl
  have hqt : Int.tdiv (p : Int) (n : Int) = (D : Int) := by rw [← hD]; rfl
  rw [hD] at HST
  clear hD
  go_wp2_with (go_at_call 40; refine (HBt.out _).mono ?_; rintro e W4 ⟨rfl, hb⟩; have HS := Lib.hid (HS0.out.below hb); clear hb)
  clear x0 x1 x2 x3 HS0
  clear hq hqt
  go_loopg [7, 8] (D + 2) (fun gg v7 v8 wr => ∃ (z : Int) (k R : Nat), v7 = .int .i64 z ∧ z + 1 = k ∧ k < gg ∧ k ≤ p + 1 ∧ R ^ n ≤ A ∧ A < (R + 2 ^ k) ^ n ∧ RrSt w wr b6 A R)
  case atStart => exact ⟨D, D + 1, 0, rfl, by omega, by omega, by have := HDP.out; omega, by rw [Nat.zero_pow HN.out]; exact Nat.zero_le _, HST.out, HS.out⟩
  case round =>
    clear HS hDb HDP HST
    obtain ⟨z, k, R, rfl, hz, hg, hk, hR, hU, hs⟩ := hrel
    have HGG := Lib.hid hg
    have HR := Lib.hid hR
    have HU := Lib.hid hU
    have HS := Lib.hid hs
    clear hg hR hU hs
    rcases k with _ | k
    · obtain rfl : z = -1 := by omega
      have HF := Lib.hid (show nrt n A = R from nrt_eq HR.out (by have := HU.out; rwa [Nat.pow_zero] at this))
      clear hz
      obtain ⟨o0, o1, o2, o3, _⟩ := id HS.out.o
      obtain ⟨r0, r1, r2, r3, _⟩ := id HS.out.r
      go_wp2
      refine bodyPost_ret (v := .tuple #[.agg #[.bool false, .string (mg R)], .int .i64 0]) (by simp [results, Try.results24, go_sem, r0, r1]) rfl ?_
      exact ⟨by rw [HF.out, sgnN, Int.natAbs_natCast], (HS.out.be.setCell (p := ⟨w.heap.size + 1, 0, none⟩) (Nat.le_succ _) _).setCell (p := ⟨w.heap.size + 1, 1, none⟩) (Nat.le_succ _) _⟩
    · obtain rfl : z = k := by omega
      clear hz
      have k0 : (0 : Int) ≤ k := by omega
      have hkM : k ≤ M := by have := HPM.out; omega
      have hRM : R < 2 ^ (M + 1) := Nat.lt_of_le_of_lt (root_le HN.out HR.out) (bits_up (M + 1) HAM.out (by omega))
      have hkP : 2 ^ k < 2 ^ (M + 1) := Nat.pow_lt_pow_right (by decide) (by omega)
      have hXM : R + 2 ^ k < 2 ^ (M + 1 + 1) := add_bits hRM hkP
      have HPw := Lib.hid (fun Y => rpow2_any k Y (by have := HMM.out; omega))
      have HAd := Lib.hid (fun Y => rAddN hRM hkP (by have := HMM.out; omega) Y)
      have HBX := Lib.hid (fun Y => rBitsN hXM (by have := HMM.out; omega) Y)
      have hX1 : 1 ≤ R + 2 ^ k := by have := Nat.pow_pos (n := k) (show 0 < 2 by decide); omega
      have HBits := Lib.hid (fun h => root_bits (A := A) (n := n) hX1 h)
      have HAmo := Lib.hid (fun Y (hA1 : 1 ≤ A) => ratMost_any (R + 2 ^ k) A n (M + 1 + 1) Y hX1 hA1 hXM (bits_up _ HAM.out (by omega)) (by have := HMM.out; omega) HN2.out)
      have HUk := Lib.hid (show A < (R + 2 ^ k + 2 ^ k) ^ n by have := HU.out; rwa [Nat.pow_succ, Nat.mul_two, ← Nat.add_assoc] at this)
      have hbX : bl (R + 2 ^ k) ≤ M + 1 + 1 := bl_le_iff.2 hXM
      have hq0 := (bl_spec (show R + 2 ^ k ≠ 0 by omega)).1
      obtain ⟨q, hq⟩ : ∃ q, bl (R + 2 ^ k) = q := ⟨_, rfl⟩
      rw [hq] at hq0
      rw [hq] at HBX HBits hbX
      obtain ⟨X, hX⟩ : ∃ X, R + 2 ^ k = X := ⟨_, rfl⟩
      rw [hX] at HAd HBX HBits HAmo HUk
      obtain ⟨T, hT⟩ : ∃ T, 2 ^ k = T := ⟨_, rfl⟩
      rw [hT] at HPw HAd
      have hqb : q ≤ 240002 := by have := HMM.out; omega
      obtain ⟨P, hP⟩ : ∃ P, q * n = P := ⟨_, rfl⟩
      have hPi : (q : Int) * (n : Int) = P := by rw [← hP]; push_cast; rfl
      have hPb : P ≤ 240002 * 4096 := by rw [← hP]; exact Nat.mul_le_mul hqb HN2.out
      have hq1 : 0 < q := hq0
      have HPP := Lib.hid (show n ≤ P by rw [← hP]; exact Nat.le_mul_of_pos_left n hq1)
      rw [hP] at HBits
      have HX := Lib.hid (show R + T = X by rw [← hT]; exact hX)
      have HT := Lib.hid hT
      clear hkM hRM hkP hXM hX1 hbX hq hX hT hP hq0 hq1
      obtain ⟨o0, o1, o2, o3, _⟩ := id HS.out.o
      go_upto_region 8 with fail
      refine wp_region_front 6 zvI (by kernel_rfl) shI (by kernel_rfl) (by kernel_rfl) (zvI_alloc _ (by kernel_rfl)) (shI_store _ (by kernel_rfl)) ?_
      intro mm BW hm1 hm2 hBW
      haveI := clm_some mm BW
      have fq0 := fun u : Clm mm BW => (HS.out.o.clm hm1 hBW u).1
      have fr0 := fun u : Clm mm BW => (HS.out.o.clm hm1 hBW u).2
      simp only [frontOf, unmade, List.take_succ_cons, List.take_zero, List.map_cons, List.map_nil]
      iterate 2 (go_big_quiet_step (fail))
      go_big_quiet_step ((go_at_call 62; exact quiet_clm hm2 HPw.out _))
      go_big_quiet_step ((go_at_call 15; exact quiet_clm hm2 HAd.out _))
      iterate 2 (go_big_quiet_step (fail))
      refine wpQuiet_nil ?_
      refine ⟨List.forall_mem_cons.2 ⟨by kernel_rfl, List.forall_mem_nil _⟩, ?_⟩
      intro γ w9 hB9 hF
      clear hBW this hm1 hm2 fq0 fr0 o0 o1 o2 o3
      clear BW mm
      simp only [madesFrom, Facts, patch, List.take_succ_cons, List.take_zero, List.drop_succ_cons, List.drop_zero, Nat.zero_add, Nat.reduceAdd, List.mem_cons, List.not_mem_nil, or_false, forall_eq, forall_eq_or_imp, false_imp_iff, implies_true, and_true] at hF ⊢
      obtain ⟨hp8, hl8, hk8⟩ := hF
      obtain ⟨b8, hG⟩ : ∃ B, γ 4 = B := ⟨_, rfl⟩
      rw [hG] at hp8 hl8 hk8 ⊢
      clear hG
      have HS8 := Lib.hid (HS.out.below hB9)
      have HB8 := Lib.hid (bx_of (n := false) (s := mg X) (T := 23) hk8 hl8)
      have HN8 := Lib.hid (show b6 ≠ b8 from fun e => by have := HS.out.o.lt; omega)
      clear hB9 hp8 hl8 hk8 HS
      go_wp2_with fail
      go_frame
      haveI := cls_some w9
      have fx0 : ∀ u : Cl w9, u.x.cell? ⟨b8, 0, none⟩ = some (.bool false) := fun u => (HB8.out.below u.h).c0
      have fx1 : ∀ u : Cl w9, u.x.cell? ⟨b8, 1, none⟩ = some (.string (mg X)) := fun u => (HB8.out.below u.h).c1
      have fa0 : ∀ u : Cl w9, u.x.cell? ⟨w.heap.size, 0, none⟩ = some (.bool false) := fun u => (HS8.out.a.below u.h).c0
      have fa1 : ∀ u : Cl w9, u.x.cell? ⟨w.heap.size, 1, none⟩ = some (.string (mg A)) := fun u => (HS8.out.a.below u.h).c1
      by_cases hc1 : (P : Int) - n < p
      · have HA1 := Lib.hid (show 1 ≤ A by
          rcases Nat.eq_zero_or_pos A with h | h
          · have h2 := HP.out
            rw [h, bl_zero] at h2
            have := HPP.out
            omega
          · exact h)
        by_cases hle : X ^ n ≤ A
        · have HAm := Lib.hid (fun Y => (HAmo.out Y HA1.out).mono fun e w' h => (⟨by rw [h.1, decide_eq_true hle], h.2⟩ : e = .returned (.bool true) ∧ Below Y.heap.size Y w'))
          have HLE := Lib.hid hle
          clear hle
          refine wp_region_cls (by kernel_rfl) ?_
          iterate 1 (go_big_quiet_step (fail))
          go_big_quiet_step ((go_at_call 40; exact quiet_cls HBX.out _))
          iterate 5 (go_big_quiet_step (fail))
          go_big_quiet_step ((go_at_call 40; exact quiet_cls HBt.out _))
          iterate 5 (go_big_quiet_step (fail))
          go_big_quiet_step ((go_at_call 63; exact quiet_cls HAm.out _))
          iterate 1 (go_big_quiet_step (fail))
          refine wpQuiet_nil ?_
          intro w10 hw9
          have hB : Below w9.heap.size w9 w10 := by obtain ⟨u, rfl⟩ := hw9; exact u.h
          clear hw9 fx0 fx1 fa0 fa1
          have HS10 := Lib.hid (HS8.out.below hB)
          have HB10 := Lib.hid (HB8.out.below hB)
          clear hB
          obtain ⟨o0, o1, o2, o3, _⟩ := id HS10.out.o
          obtain ⟨q0, q1, q2, q3, _⟩ := id HB10.out
          go_wp2
          go_roundg (k + 1)
          case rel => exact ⟨(k : Int) - 1, k, X, rfl, by omega, Nat.lt_succ_self _, by omega, HLE.out, HUk.out, HS10.out.set X⟩
          case measure => exact HGG.out
        · have HAm := Lib.hid (fun Y => (HAmo.out Y HA1.out).mono fun e w' h => (⟨by rw [h.1, decide_eq_false hle], h.2⟩ : e = .returned (.bool false) ∧ Below Y.heap.size Y w'))
          have HLE := Lib.hid (show A < X ^ n by omega)
          clear hle
          refine wp_region_cls (by kernel_rfl) ?_
          iterate 1 (go_big_quiet_step (fail))
          go_big_quiet_step ((go_at_call 40; exact quiet_cls HBX.out _))
          iterate 5 (go_big_quiet_step (fail))
          go_big_quiet_step ((go_at_call 40; exact quiet_cls HBt.out _))
          iterate 5 (go_big_quiet_step (fail))
          go_big_quiet_step ((go_at_call 63; exact quiet_cls HAm.out _))
          iterate 1 (go_big_quiet_step (fail))
          refine wpQuiet_nil ?_
          intro w10 hw9
          have hB : Below w9.heap.size w9 w10 := by obtain ⟨u, rfl⟩ := hw9; exact u.h
          clear hw9 fx0 fx1 fa0 fa1
          have HS10 := Lib.hid (HS8.out.below hB)
          have HB10 := Lib.hid (HB8.out.below hB)
          clear hB
          go_wp2
          go_roundg (k + 1)
          case rel => exact ⟨(k : Int) - 1, k, R, rfl, by omega, Nat.lt_succ_self _, by omega, HR.out, by rw [HT.out, HX.out]; exact HLE.out, HS10.out⟩
          case measure => exact HGG.out
      · have HLE := Lib.hid (show A < X ^ n from HBits.out (by rw [HP.out]; have := HPP.out; omega))
        have hc2 : decide ((P : Int) - n < p) = false := decide_eq_false hc1
        clear hc1
        refine wp_region_cls (by kernel_rfl) ?_
        iterate 1 (go_big_quiet_step (fail))
        go_big_quiet_step ((go_at_call 40; exact quiet_cls HBX.out _))
        iterate 5 (go_big_quiet_step (fail))
        go_big_quiet_step ((go_at_call 40; exact quiet_cls HBt.out _))
        iterate 7 (go_big_quiet_step (fail))
        refine wpQuiet_nil ?_
        intro w10 hw9
        have hB : Below w9.heap.size w9 w10 := by obtain ⟨u, rfl⟩ := hw9; exact u.h
        clear hw9 fx0 fx1 fa0 fa1
        have HS10 := Lib.hid (HS8.out.below hB)
        have HB10 := Lib.hid (HB8.out.below hB)
        clear hB
        go_wp2
        go_roundg (k + 1)
        case rel => exact ⟨(k : Int) - 1, k, R, rfl, by omega, Nat.lt_succ_self _, by omega, HR.out, by rw [HT.out, HX.out]; exact HLE.out, HS10.out⟩
        case measure => exact HGG.out
end Go.Proofs.Gv
