/- The reference implementation of integers: Root refused; heavy. -/
import Derived.Test.YtpnhccpfbeidlaaRefRt
namespace Go.Proofs.Gv
open Go Go.RowKit

set_option maxRecDepth 100000 in
set_option maxHeartbeats 4000000 in
theorem rRoot_bad (na : Bool) (sa : ByteArray) (n : Int) (w : World) (ha : sa.size ≤ 30000) (h : iv na sa < 0 ∨ n < 1 ∨ 4096 < n) :
    Calls Try.prog 24 #[.agg #[.bool na, .string sa], .int .i64 n] w (RetIE w 0 2) := by
  have HCn := Lib.hid (fun X => rcanon_any na sa X (by omega))
  unfold RetI at HCn
  obtain ⟨ns, hns⟩ : ∃ x, sgn (iv na sa) = x := ⟨_, rfl⟩
  obtain ⟨ms, hms⟩ : ∃ x, mg (iv na sa).natAbs = x := ⟨_, rfl⟩
  rw [hns, hms] at HCn
  have hw : ns = true ∨ (ns = false ∧ decide (n < 1) = true) ∨ (ns = false ∧ decide (n < 1) = false ∧ decide ((4096 : Int) < n) = true) := by
    cases e : ns
    · by_cases h1 : n < 1
      · exact .inr (.inl ⟨rfl, decide_eq_true h1⟩)
      · refine .inr (.inr ⟨rfl, decide_eq_false h1, decide_eq_true ?_⟩)
        have h2 : ¬ iv na sa < 0 := by rw [e] at hns; exact of_decide_eq_false hns
        omega
    · exact .inl rfl
  clear hns hms h ha
  have HZ0 := Lib.hid (mg_zero)
  have HL0 := Lib.hid (((Below.refl w.heap.size w).alloc (Nat.le_refl _) (.cells #[.bool na, .string sa] 23)).alloc (by simp) (.cells #[.bool false, .string ⟨#[]⟩] 23))
  have HB0 := Lib.hid ((Bx.new w w.heap.size na sa rfl).alloc (.cells #[.bool false, .string ⟨#[]⟩] 23))
  have HB1 := Lib.hid (Bx.new (w.alloc (.cells #[.bool na, .string sa] 23)) (w.heap.size + 1) false ⟨#[]⟩ (by simp))
  rcases hw with rfl | ⟨rfl, t1⟩ | ⟨rfl, t1, t2⟩
  all_goals (
    go_enter Try.func24, Try.ntmps24
    go_upto_region 1 with fail
    obtain ⟨W, hW⟩ : ∃ W, (w.alloc (.cells #[.bool na, .string sa] 23)).alloc (.cells #[.bool false, .string ⟨#[]⟩] 23) = W := ⟨_, rfl⟩
    rw [hW] at HL0 HB0 HB1 ⊢
    clear hW
    obtain ⟨x0, x1, x2, x3, _⟩ := id HB0.out
    go_upto_region 2 with (go_at_call 48; refine (HCn.out _).mono ?_; rintro e W1 ⟨rfl, hb⟩; have HL1 := Lib.hid (bstep HL0.out hb); have HX1 := Lib.hid (HB0.out.below hb); have HR1 := Lib.hid (HB1.out.below hb); clear hb x0 x1 x2 x3; obtain ⟨x0, x1, x2, x3, _⟩ := id HX1.out))
  all_goals (
    have HR2 := Lib.hid (fun u v => HR1.out.other (u := u) (v := v) (show w.heap.size + 1 ≠ w.heap.size by omega))
    have HL2 := Lib.hid (fun u v => (HL1.out.setCell (p := ⟨w.heap.size, 0, none⟩) (Nat.le_refl _) u).setCell (p := ⟨w.heap.size, 1, none⟩) (Nat.le_refl _) v)
    have r0 := fun u v => (HR2.out u v).c0
    have r1 := fun u v => (HR2.out u v).c1
    have r2 := fun u v => (HR2.out u v).z0
    have r3 := fun u v => (HR2.out u v).z1)
  all_goals (
    go_wp2
    refine bodyPost_ret (v := .tuple #[.agg #[.bool false, .string ⟨#[]⟩], .int .i64 2]) (by simp [results, Try.results24, go_sem, r0, r1]) rfl ?_
    exact ⟨by rw [Int.natAbs_zero, HZ0.out]; rfl, ((HL2.out _ _).setCell (p := ⟨w.heap.size + 1, 0, none⟩) (Nat.le_succ _) _).setCell (p := ⟨w.heap.size + 1, 1, none⟩) (Nat.le_succ _) _⟩)

/-- Whether a power would be heavy. -/
def hvB (p : Nat) (n : Int) : Bool := decide (0 < n) && decide (n ≤ 4096) && decide (4000 < (p : Int) * n) && decide ((p : Int) * n ≤ 65536)
set_option maxRecDepth 100000 in
set_option maxHeartbeats 4000000 in
theorem heavy_any (na : Bool) (sa : ByteArray) (n : Int) (w : World) (ha : sa.size ≤ 30000) :
    Calls Try.prog 20 #[.agg #[.bool na, .string sa], .int .i64 n] w fun e w' => e = .returned (.bool (hvB (bl (bv sa.data.toList)) n)) ∧ Below w.heap.size w w' := by
  have HBt := Lib.hid (fun X => rBits_any na sa X (by omega))
  have hbb := bl_size sa ha
  obtain ⟨p, hp⟩ : ∃ p, bl (bv sa.data.toList) = p := ⟨_, rfl⟩
  rw [hp] at HBt hbb ⊢
  clear hp ha
  have HL0 := Lib.hid ((Below.refl w.heap.size w).alloc (Nat.le_refl _) (.cells #[.bool na, .string sa] 23))
  have HB0 := Lib.hid (Bx.new w w.heap.size na sa rfl)
  by_cases h1 : 0 < n
  · by_cases h2 : n ≤ 4096
    · obtain ⟨N, rfl⟩ : ∃ N : Nat, n = N := ⟨n.toNat, by omega⟩
      obtain ⟨P, hP⟩ : ∃ P, p * N = P := ⟨_, rfl⟩
      have hPi : (p : Int) * (N : Int) = P := by rw [← hP]; push_cast; rfl
      have hPb : P ≤ 8 * 30000 * 4096 := by rw [← hP]; exact Nat.mul_le_mul hbb (by omega)
      have HE := Lib.hid (show hvB p N = (decide (4000 < (P : Int)) && decide ((P : Int) ≤ 65536)) by unfold hvB; rw [decide_eq_true h1, decide_eq_true h2, hPi]; simp)
      have t1 : decide ((0 : Int) < N) = true := decide_eq_true h1
      have t2 : decide ((N : Int) ≤ 4096) = true := decide_eq_true h2
      clear hP hbb
      have hw : decide ((4000 : Int) < (P : Nat)) = false ∨ (decide ((4000 : Int) < (P : Nat)) = true ∧ decide (((P : Nat) : Int) ≤ 65536) = true) ∨ (decide ((4000 : Int) < (P : Nat)) = true ∧ decide (((P : Nat) : Int) ≤ 65536) = false) := by
        by_cases a : (4000 : Int) < (P : Nat)
        · by_cases b : ((P : Nat) : Int) ≤ 65536
          · exact .inr (.inl ⟨decide_eq_true a, decide_eq_true b⟩)
          · exact .inr (.inr ⟨decide_eq_true a, decide_eq_false b⟩)
        · exact .inl (decide_eq_false a)
      rcases hw with t3 | ⟨t3, t4⟩ | ⟨t3, t4⟩
      · have HE2 := Lib.hid (show hvB p N = false by rw [HE.out, t3]; rfl)
        obtain ⟨x0, x1, x2, x3, _⟩ := id HB0.out
        go_enter Try.func20, Try.ntmps20
        go_wp2_with (go_at_call 40; refine (HBt.out _).mono ?_; rintro e W1 ⟨rfl, hb⟩; have HL1 := Lib.hid (bstep HL0.out hb); clear hb)
        go_ret
        exact ⟨by rw [HE2.out]; rfl, HL1.out⟩
      · have HE2 := Lib.hid (show hvB p N = true by rw [HE.out, t3, t4]; rfl)
        obtain ⟨x0, x1, x2, x3, _⟩ := id HB0.out
        have tk0 := Lib.hid trivial
        go_enter Try.func20, Try.ntmps20
        go_wp2_with (first
          | (go_at_call 40; have hz := tk0.out; clear hz; refine (HBt.out _).mono ?_; rintro e W1 ⟨rfl, hb⟩; have tk1 := Lib.hid trivial; clear tk0; have HL1 := Lib.hid (bstep HL0.out hb); have HX1 := Lib.hid (HB0.out.below hb); clear hb x0 x1 x2 x3; obtain ⟨x0, x1, x2, x3, _⟩ := id HX1.out)
          | (go_at_call 40; have hz := tk1.out; clear hz; refine (HBt.out _).mono ?_; rintro e W2 ⟨rfl, hb⟩; clear tk1; have HL2 := Lib.hid (bstep HL1.out hb); clear hb))
        go_ret
        exact ⟨by rw [HE2.out]; rfl, HL2.out⟩
      · have HE2 := Lib.hid (show hvB p N = false by rw [HE.out, t3, t4]; rfl)
        obtain ⟨x0, x1, x2, x3, _⟩ := id HB0.out
        have tk0 := Lib.hid trivial
        go_enter Try.func20, Try.ntmps20
        go_wp2_with (first
          | (go_at_call 40; have hz := tk0.out; clear hz; refine (HBt.out _).mono ?_; rintro e W1 ⟨rfl, hb⟩; have tk1 := Lib.hid trivial; clear tk0; have HL1 := Lib.hid (bstep HL0.out hb); have HX1 := Lib.hid (HB0.out.below hb); clear hb x0 x1 x2 x3; obtain ⟨x0, x1, x2, x3, _⟩ := id HX1.out)
          | (go_at_call 40; have hz := tk1.out; clear hz; refine (HBt.out _).mono ?_; rintro e W2 ⟨rfl, hb⟩; clear tk1; have HL2 := Lib.hid (bstep HL1.out hb); clear hb))
        go_ret
        exact ⟨by rw [HE2.out]; rfl, HL2.out⟩
    · have HE2 := Lib.hid (show hvB p n = false by unfold hvB; rw [decide_eq_false h2]; simp)
      have t1 : decide ((0 : Int) < n) = true := decide_eq_true h1
      have t2 : decide (n ≤ 4096) = false := decide_eq_false h2
      clear h1 h2
      go_enter Try.func20, Try.ntmps20
      go_wp2
      go_ret
      exact ⟨by rw [HE2.out]; rfl, HL0.out⟩
  · have HE2 := Lib.hid (show hvB p n = false by unfold hvB; rw [decide_eq_false h1]; simp)
    have t1 : decide ((0 : Int) < n) = false := decide_eq_false h1
    clear h1
    go_enter Try.func20, Try.ntmps20
    go_wp2
    go_ret
    exact ⟨by rw [HE2.out]; rfl, HL0.out⟩
end Go.Proofs.Gv
