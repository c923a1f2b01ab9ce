/- The law WordNext, walked. -/
import Derived.Test.YtlaakomeofldgaaUnrank
import Derived.Test.YtlaakomeofldgaaAwk07
namespace Go.Proofs.Gv
open Go Go.RowKit

theorem quiet_cl1 {W : World} {f : Nat} {args : Array Value} {v : Value} (u : Cl W) (h : Calls Try.prog f args u.x fun e w' => e = .returned v ∧ Below u.x.heap.size u.x w') :
    Calls Try.prog f args u.x fun e w'' => e = .returned v ∧ ∃ u' : Cl W, w'' = u'.x :=
  h.mono fun _ w' ⟨he, hb⟩ => ⟨he, ⟨⟨w', bstep u.h hb⟩, rfl⟩⟩
theorem addB (x y : Nat) (W : World) (hx : (mg x).size ≤ 1000000) (hy : (mg y).size ≤ 1000000) :
    Calls Try.prog 44 #[.agg #[.bool false, .string (mg x)], .agg #[.bool false, .string (mg y)]] W fun e w' => e = .returned (.agg #[.bool false, .string (mg (x + y))]) ∧ Below W.heap.size W w' := by
  have h1 : Rp false (mg x) x := ⟨by unfold iv; simp [bv_mg], hx⟩
  have h2 : Rp false (mg y) y := ⟨by unfold iv; simp [bv_mg], hy⟩
  have := cAdd h1 h2 W
  rwa [← Int.natCast_add, sgn_natB, Int.natAbs_natCast] at this
theorem rankB {q : Nat} {s : ByteArray} {R : Nat} (hc : chk q s = 0) (hr : rk q s s.size = (R : Nat)) (hl : s.size ≤ 65536) (W : World) :
    Calls Try.prog 40 #[.int .i64 q, .string s] W fun e w' => e = .returned (.tuple #[.agg #[.bool false, .string (mg R)], .int .i64 0]) ∧ Below W.heap.size W w' := by
  have := Rank_any q s W (by omega)
  unfold RetRank at this
  rw [hc, if_pos rfl, Int.toNat_natCast, hr, sgn_natB, Int.natAbs_natCast] at this
  exact this
theorem nextB {q : Nat} {s t : ByteArray} (hn : nextS q s = (t, 0)) (hl : s.size ≤ 65536) (W : World) :
    Calls Try.prog 35 #[.int .i64 q, .string s] W fun e w' => e = .returned (.tuple #[.string t, .int .i64 0]) ∧ Below W.heap.size W w' := by
  have := Next_any q s W (by omega)
  unfold RetNext at this
  rw [hn] at this
  exact this
theorem wcheckB {q : Int} {s : ByteArray} {c : Int} (hc : chk q s = c) (hl : s.size ≤ maxLen) (W : World) :
    Calls Try.prog 37 #[.int .i64 q, .string s] W fun e w' => e = .returned (.int .i64 c) ∧ Below W.heap.size W w' :=
  (WCheck_any q s W (by unfold maxLen at hl; omega)).mono fun e w' ⟨h1, h2⟩ => ⟨by rw [h1, hc], h2.elim fun n hn => hn ▸ below_drewN (Below.refl _ _) _⟩
theorem unrankB {q n A : Nat} {t : ByteArray} (h1 : 1 ≤ q) (h2 : q ≤ 16) (hn : n ≤ 65536) (hA : (mg A).size ≤ 1000000) (hlt : A < q ^ n) (ht : unS q n A = t) (W : World) :
    Calls Try.prog 42 #[.int .i64 q, .int .i64 n, .agg #[.bool false, .string (mg A)]] W fun e w' => e = .returned (.tuple #[.string t, .int .i64 0]) ∧ Below W.heap.size W w' := by
  have := Unrank_V q n A W h1 h2 hn hA
  unfold RetUn at this
  rw [if_pos hlt, if_pos hlt, ht] at this
  exact this
theorem unrankE {q n A : Nat} (h1 : 1 ≤ q) (h2 : q ≤ 16) (hn : n ≤ 65536) (hA : (mg A).size ≤ 1000000) (hlt : ¬ A < q ^ n) (W : World) :
    Calls Try.prog 42 #[.int .i64 q, .int .i64 n, .agg #[.bool false, .string (mg A)]] W fun e w' => e = .returned (.tuple #[.string ⟨#[]⟩, .int .i64 2]) ∧ Below W.heap.size W w' := by
  have := Unrank_V q n A W h1 h2 hn hA
  unfold RetUn at this
  rw [if_neg hlt, if_neg hlt] at this
  exact this
@[go_sem] theorem binOp_string_gtr' {P : Program} (w : World) (t : TypeId) (x y : ByteArray) : (binOp .gtr t (.string x) (.string y)).run P w = .ok (.bool !(Op.bytesLess x.toList y.toList || (x.toList == y.toList))) w := by
  simp [binOp, Op.stringOp]
@[go_sem] theorem run_max4 {P : Program} (w : World) (ts : Array TypeId) (t : TypeId) (k k' k'' k3 : IntKind) : (Builtin.max_ ts t #[.int k 0, .int k' 0, .int k'' 0, .int k3 0]).run P w = .ok (.int k 0) w := by
  simp [Builtin.max_, Builtin.max2]

set_option maxRecDepth 100000 in
set_option maxHeartbeats 1600000 in
theorem lnext_same (q : Int) (s t a b : ByteArray) (m : Int) (w : World) (hs : s.size ≤ 24) (ht : t.size = s.size) (hm : w.cell? ⟨0, 0, none⟩ = some (.int .i64 m)) (h₀ : 0 < w.heap.size)
    (HC : ∀ W, Calls Try.prog 37 #[.int .i64 q, .string s] W fun e w' => e = .returned (.int .i64 0) ∧ Below W.heap.size W w')
    (HC2 : ∀ W, Calls Try.prog 37 #[.int .i64 q, .string t] W fun e w' => e = .returned (.int .i64 0) ∧ Below W.heap.size W w')
    (HN : ∀ W, Calls Try.prog 35 #[.int .i64 q, .string s] W fun e w' => e = .returned (.tuple #[.string t, .int .i64 0]) ∧ Below W.heap.size W w')
    (HR1 : ∀ W, Calls Try.prog 40 #[.int .i64 q, .string s] W fun e w' => e = .returned (.tuple #[.agg #[.bool false, .string a], .int .i64 0]) ∧ Below W.heap.size W w')
    (HR2 : ∀ W, Calls Try.prog 40 #[.int .i64 q, .string t] W fun e w' => e = .returned (.tuple #[.agg #[.bool false, .string b], .int .i64 0]) ∧ Below W.heap.size W w')
    (HU : ∀ W, Calls Try.prog 42 #[.int .i64 q, .int .i64 s.size, .agg #[.bool false, .string a]] W fun e w' => e = .returned (.tuple #[.string s, .int .i64 0]) ∧ Below W.heap.size W w')
    (HO : ∀ W, Calls Try.prog 45 #[.int .i64 1] W fun e w' => e = .returned (.agg #[.bool false, .string (mg 1)]) ∧ Below W.heap.size W w')
    (HA : ∀ W, Calls Try.prog 44 #[.agg #[.bool false, .string a], .agg #[.bool false, .string (mg 1)]] W fun e w' => e = .returned (.agg #[.bool false, .string b]) ∧ Below W.heap.size W w')
    (g1 : Op.bytesLess t.toList s.toList = false) (g2 : (t.toList == s.toList) = false) :
    Calls Try.prog 10 #[.int .i64 q, .string s] w fun e w' => e = .returned (.bool true) ∧ Below w.heap.size w w' := by
  have HM := Lib.hid hm
  have K1 := Lib.hid HC
  have K2 := Lib.hid HC2
  have K3 := Lib.hid HN
  have K4 := Lib.hid HR1
  have K5 := Lib.hid HR2
  have K6 := Lib.hid HU
  have K7 := Lib.hid HO
  have K8 := Lib.hid HA
  have G1 := Lib.hid g1
  have G2 := Lib.hid g2
  clear hm HC HC2 HN HR1 HR2 HU HO HA g1 g2
  have ts : ¬ (24 : Int) < s.size := by omega
  have tt : (t.size : Int) = s.size := by omega
  have te : (s.toList == s.toList) = true := by simp
  have tk0 := Lib.hid trivial
  have HB0 := Lib.hid (Below.refl w.heap.size w)
  go_enter Try.func10, Try.ntmps10
  go_upto_region 10 with (first
    | (go_at_call 37; have hz := tk0.out; clear hz; refine (K1.out _).mono ?_; rintro e w1 ⟨rfl, hb⟩; have tk1 := Lib.hid trivial; clear tk0; have HB1 := Lib.hid (bstep HB0.out hb); clear hb)
    | (go_at_call 35; refine (K3.out _).mono ?_; rintro e w2 ⟨rfl, hb⟩; have HB2 := Lib.hid (bstep HB1.out hb); clear hb)
    | (go_at_call 40; have hz := tk1.out; clear hz; refine (K4.out _).mono ?_; rintro e w3 ⟨rfl, hb⟩; have tk2 := Lib.hid trivial; clear tk1; have HB3 := Lib.hid (bstep HB2.out hb); clear hb)
    | (go_at_call 40; have hz := tk2.out; clear hz; refine (K5.out _).mono ?_; rintro e w4 ⟨rfl, hb⟩; clear tk2; have HX4 := Lib.hid ((Bx.new w3 w3.heap.size false a rfl).below hb); have HB4 := Lib.hid (bstep (HB3.out.alloc HB3.out.size (.cells #[.bool false, .string a] 49)) hb); have hz4 := hb.size; obtain ⟨x0, x1, x2, x3, x4⟩ := id HX4.out; clear hb)
    | (go_at_call 42; refine (K6.out _).mono ?_; rintro e w5 ⟨rfl, hb⟩; have HX5 := Lib.hid ((HX4.out.alloc (.cells #[.bool false, .string b] 49)).below hb); have HY5 := Lib.hid ((Bx.new w4 w4.heap.size false b rfl).below hb); have HB5 := Lib.hid (bstep (HB4.out.alloc HB4.out.size (.cells #[.bool false, .string b] 49)) hb); clear hb)
    | (go_at_call 37; refine (K2.out _).mono ?_; rintro e w6 ⟨rfl, hb⟩; have HX6 := Lib.hid (HX5.out.below hb); have HY6 := Lib.hid (HY5.out.below hb); have HB6 := Lib.hid (bstep HB5.out hb); clear hb))
  haveI := cls_some w6
  have fq0 : ∀ u : Cl w6, u.x.cell? ⟨w3.heap.size, 0, none⟩ = some (.bool false) := fun u => (HX6.out.below u.h).c0
  have fr0 : ∀ u : Cl w6, u.x.cell? ⟨w3.heap.size, 1, none⟩ = some (.string a) := fun u => (HX6.out.below u.h).c1
  have fq1 : ∀ u : Cl w6, u.x.cell? ⟨w4.heap.size, 0, none⟩ = some (.bool false) := fun u => (HY6.out.below u.h).c0
  have fr1 : ∀ u : Cl w6, u.x.cell? ⟨w4.heap.size, 1, none⟩ = some (.string b) := fun u => (HY6.out.below u.h).c1
  have tb : eqI false b false b = true := eqI_iff.mpr ⟨rfl, rfl⟩
  have g1 := G1.out
  have g2 := G2.out
  have HAw := Lib.hid (fun u : Cl w6 => quiet_cl1 u (awake07 m u.x ((u.h.cell (p := ⟨0, 0, none⟩) (Nat.lt_of_lt_of_le h₀ HB6.out.size)).trans ((HB6.out.cell (p := ⟨0, 0, none⟩) h₀).trans HM.out)) (Nat.lt_of_lt_of_le h₀ (Nat.le_trans HB6.out.size u.h.size))))
  refine wp_region_cls (by kernel_rfl) ?_
  iterate 6 (go_big_quiet_step (fail))
  go_big_quiet_step ((go_at_call 45; exact quiet_cls K7.out _))
  go_big_quiet_step ((go_at_call 44; exact quiet_cls K8.out _))
  iterate 3 (go_big_quiet_step (fail))
  go_big_quiet_step ((go_at_call 12; exact HAw.out _))
  iterate 2 (go_big_quiet_step (fail))
  refine wpQuiet_nil ?_
  intro w7 hw9
  have hB : Below w6.heap.size w6 w7 := by obtain ⟨u, rfl⟩ := hw9; exact u.h
  clear hw9 fq0 fr0 fq1 fr1
  have HB7 := Lib.hid (bstep HB6.out hB)
  go_wp2
  go_ret
  exact ⟨rfl, HB7.out⟩

set_option maxRecDepth 100000 in
set_option maxHeartbeats 1600000 in
theorem lnext_more (q : Int) (s t a b : ByteArray) (m : Int) (w : World) (hs : s.size ≤ 24) (ht : t.size = s.size + 1) (hm : w.cell? ⟨0, 0, none⟩ = some (.int .i64 m)) (h₀ : 0 < w.heap.size)
    (HC : ∀ W, Calls Try.prog 37 #[.int .i64 q, .string s] W fun e w' => e = .returned (.int .i64 0) ∧ Below W.heap.size W w')
    (HC2 : ∀ W, Calls Try.prog 37 #[.int .i64 q, .string t] W fun e w' => e = .returned (.int .i64 0) ∧ Below W.heap.size W w')
    (HN : ∀ W, Calls Try.prog 35 #[.int .i64 q, .string s] W fun e w' => e = .returned (.tuple #[.string t, .int .i64 0]) ∧ Below W.heap.size W w')
    (HR1 : ∀ W, Calls Try.prog 40 #[.int .i64 q, .string s] W fun e w' => e = .returned (.tuple #[.agg #[.bool false, .string a], .int .i64 0]) ∧ Below W.heap.size W w')
    (HR2 : ∀ W, Calls Try.prog 40 #[.int .i64 q, .string t] W fun e w' => e = .returned (.tuple #[.agg #[.bool false, .string ⟨#[]⟩], .int .i64 0]) ∧ Below W.heap.size W w')
    (HU : ∀ W, Calls Try.prog 42 #[.int .i64 q, .int .i64 s.size, .agg #[.bool false, .string a]] W fun e w' => e = .returned (.tuple #[.string s, .int .i64 0]) ∧ Below W.heap.size W w')
    (HO : ∀ W, Calls Try.prog 45 #[.int .i64 1] W fun e w' => e = .returned (.agg #[.bool false, .string (mg 1)]) ∧ Below W.heap.size W w')
    (HA : ∀ W, Calls Try.prog 44 #[.agg #[.bool false, .string a], .agg #[.bool false, .string (mg 1)]] W fun e w' => e = .returned (.agg #[.bool false, .string b]) ∧ Below W.heap.size W w')
    (HV : ∀ W, Calls Try.prog 42 #[.int .i64 q, .int .i64 s.size, .agg #[.bool false, .string b]] W fun e w' => e = .returned (.tuple #[.string ⟨#[]⟩, .int .i64 2]) ∧ Below W.heap.size W w') :
    Calls Try.prog 10 #[.int .i64 q, .string s] w fun e w' => e = .returned (.bool true) ∧ Below w.heap.size w w' := by
  have HM := Lib.hid hm
  have K1 := Lib.hid HC
  have K2 := Lib.hid HC2
  have K3 := Lib.hid HN
  have K4 := Lib.hid HR1
  have K5 := Lib.hid HR2
  have K6 := Lib.hid HU
  have K7 := Lib.hid HO
  have K8 := Lib.hid HA
  have K9 := Lib.hid HV
  clear hm HC HC2 HN HR1 HR2 HU HO HA HV
  have ts : ¬ (24 : Int) < s.size := by omega
  have tt : ((t.size : Int) == s.size) = false := by rw [beq_eq_false_iff_ne]; omega
  have HTT := Lib.hid ht
  clear ht
  have te : (s.toList == s.toList) = true := by simp
  have tk0 := Lib.hid trivial
  have HB0 := Lib.hid (Below.refl w.heap.size w)
  go_enter Try.func10, Try.ntmps10
  go_upto_region 11 with (first
    | (go_at_call 37; have hz := tk0.out; clear hz; refine (K1.out _).mono ?_; rintro e w1 ⟨rfl, hb⟩; have tk1 := Lib.hid trivial; clear tk0; have HB1 := Lib.hid (bstep HB0.out hb); clear hb)
    | (go_at_call 35; refine (K3.out _).mono ?_; rintro e w2 ⟨rfl, hb⟩; have HB2 := Lib.hid (bstep HB1.out hb); clear hb)
    | (go_at_call 40; have hz := tk1.out; clear hz; refine (K4.out _).mono ?_; rintro e w3 ⟨rfl, hb⟩; have tk2 := Lib.hid trivial; clear tk1; have HB3 := Lib.hid (bstep HB2.out hb); clear hb)
    | (go_at_call 40; have hz := tk2.out; clear hz; refine (K5.out _).mono ?_; rintro e w4 ⟨rfl, hb⟩; clear tk2; have HX4 := Lib.hid ((Bx.new w3 w3.heap.size false a rfl).below hb); have HB4 := Lib.hid (bstep (HB3.out.alloc HB3.out.size (.cells #[.bool false, .string a] 49)) hb); have hz4 := hb.size; obtain ⟨x0, x1, x2, x3, x4⟩ := id HX4.out; clear hb)
    | (go_at_call 42; refine (K6.out _).mono ?_; rintro e w5 ⟨rfl, hb⟩; have HX5 := Lib.hid ((HX4.out.alloc (.cells #[.bool false, .string ⟨#[]⟩] 49)).below hb); have HY5 := Lib.hid ((Bx.new w4 w4.heap.size false ⟨#[]⟩ rfl).below hb); have HB5 := Lib.hid (bstep (HB4.out.alloc HB4.out.size (.cells #[.bool false, .string ⟨#[]⟩] 49)) hb); clear hb)
    | (go_at_call 37; refine (K2.out _).mono ?_; rintro e w6 ⟨rfl, hb⟩; have HX6 := Lib.hid (HX5.out.below hb); have HY6 := Lib.hid (HY5.out.below hb); have HB6 := Lib.hid (bstep HB5.out hb); clear hb))
  haveI := cls_some w6
  have fq0 : ∀ u : Cl w6, u.x.cell? ⟨w3.heap.size, 0, none⟩ = some (.bool false) := fun u => (HX6.out.below u.h).c0
  have fr0 : ∀ u : Cl w6, u.x.cell? ⟨w3.heap.size, 1, none⟩ = some (.string a) := fun u => (HX6.out.below u.h).c1
  refine wp_region_cls (by kernel_rfl) ?_
  iterate 4 (go_big_quiet_step (fail))
  go_big_quiet_step ((go_at_call 45; exact quiet_cls K7.out _))
  go_big_quiet_step ((go_at_call 44; exact quiet_cls K8.out _))
  go_big_quiet_step ((go_at_call 42; exact quiet_cls K9.out _))
  iterate 5 (go_big_quiet_step (fail))
  refine wpQuiet_nil ?_
  intro w7 hw9
  have hB : Below w6.heap.size w6 w7 := by obtain ⟨u, rfl⟩ := hw9; exact u.h
  clear hw9 fq0 fr0
  have HB7 := Lib.hid (bstep HB6.out hB)
  have hy7 := HY6.out.below hB
  obtain ⟨y0, y1, y2, y3, y4⟩ := id hy7
  have q9 : eqI false ⟨#[]⟩ false ⟨#[]⟩ = true := eqI_iff.mpr ⟨rfl, rfl⟩
  have tq : (t.size : Int) = (s.size : Int) + 1 := by rw [HTT.out]; rfl
  clear tt
  go_wp2_with (go_at_call 12; refine (awake07 m _ ((HB7.out.cell (p := ⟨0, 0, none⟩) h₀).trans HM.out) (Nat.lt_of_lt_of_le h₀ HB7.out.size)).mono ?_; rintro e w8 ⟨rfl, hb⟩; have HB8 := Lib.hid (bstep HB7.out hb); clear hb)
  go_ret
  exact ⟨rfl, HB8.out⟩

theorem mg_sz24 {R n q : Nat} (h2 : q ≤ 16) (hn : n ≤ 24) (h : R ≤ q ^ n) : (mg R).size ≤ 1000000 := by
  have h3 : q ^ n ≤ 16 ^ n := Nat.pow_le_pow_left h2 n
  have h4 : 16 ^ n ≤ 16 ^ 24 := Nat.pow_le_pow_right (by decide) hn
  have h5 : (16 : Nat) ^ 24 < 256 ^ 13 := by decide
  exact Nat.le_trans (size_mg (k := 13) (by omega)) (by decide)
set_option maxRecDepth 100000 in
set_option maxHeartbeats 1600000 in
theorem law_next (q : Int) (s : ByteArray) (m : Int) (w : World) (hs : s.size ≤ maxLen) (hm : w.cell? ⟨0, 0, none⟩ = some (.int .i64 m)) (h₀ : 0 < w.heap.size) :
    Calls Try.prog 10 #[.int .i64 q, .string s] w fun e w' => e = .returned (.bool true) ∧ Below w.heap.size w w' := by
  by_cases h1 : 24 < s.size
  · have HM := Lib.hid hm
    clear hm
    have t1 : (24 : Int) < s.size := by omega
    go_enter Try.func10, Try.ntmps10
    go_wp2_with (go_at_call 12; refine (awake07 m _ HM.out h₀).mono ?_; rintro e w' ⟨rfl, hb⟩)
    go_ret
    exact ⟨rfl, hb⟩
  · by_cases hc : chk q s = 0
    · obtain ⟨c1, c2, c3, _⟩ := chk_ok hc
      obtain ⟨n, rfl⟩ : ∃ n : Nat, q = n := ⟨q.toNat, by omega⟩
      have n1 : 1 ≤ n := by omega
      have n2 : n ≤ 16 := by omega
      have hl : s.size ≤ 24 := by omega
      rcases next_law n2 hl hc with ⟨t, e1, e2, e3, e4, e5, e6, e7, e8, e9⟩ | ⟨t, e1, e2, e3, e4, e5, e6, e7, e8⟩
      · have z1 : (mg (rn n s s.size)).size ≤ 1000000 := mg_sz24 n2 hl (by omega)
        exact lnext_same n s t (mg (rn n s s.size)) (mg (rn n s s.size + 1)) m w hl e2 hm h₀ (wcheckB hc hs) (wcheckB e3 (by rw [e2]; exact hs)) (nextB e1 (by omega)) (rankB hc e4 (by omega)) (rankB e3 e5 (by omega))
          (unrankB n1 n2 (by omega) z1 e7 e6) (fun W => ofB 1 W (by decide)) (fun W => addB _ 1 W z1 (Nat.le_trans (size_mg (k := 1) (by decide)) (by decide))) (by rw [ByteArray.toList_eq, ByteArray.toList_eq]; exact e8) (by rw [ByteArray.toList_eq, ByteArray.toList_eq]; exact e9)
      · have z1 : (mg (rn n s s.size)).size ≤ 1000000 := mg_sz24 n2 hl (by omega)
        have z2 : (mg (rn n s s.size + 1)).size ≤ 1000000 := mg_sz24 n2 hl (by omega)
        refine lnext_more n s t (mg (rn n s s.size)) (mg (rn n s s.size + 1)) m w hl e2 hm h₀ (wcheckB hc hs) (wcheckB e3 (by rw [e2]; unfold maxLen; omega)) (nextB e1 (by omega)) (rankB hc e4 (by omega)) ?_
          (unrankB n1 n2 (by omega) z1 e7 e6) (fun W => ofB 1 W (by decide)) (fun W => addB _ 1 W z1 (Nat.le_trans (size_mg (k := 1) (by decide)) (by decide))) (unrankE n1 n2 (by omega) z2 e8)
        have := rankB (R := 0) e3 (by rw [e5]; rfl) (by omega)
        rwa [mg_zero] at this
    · have HM := Lib.hid hm
      have t1 : ¬ (24 : Int) < s.size := by omega
      have HC := Lib.hid (fun W => wcheckB (q := q) (s := s) (c := chk q s) rfl hs W)
      obtain ⟨c, hcc⟩ : ∃ c, chk q s = c := ⟨_, rfl⟩
      rw [hcc] at HC hc
      have t2 : (c != 0) = true := by rw [bne_iff_ne]; exact hc
      have HB0 := Lib.hid (Below.refl w.heap.size w)
      clear hm hcc
      go_enter Try.func10, Try.ntmps10
      go_wp2_with (first
        | (go_at_call 37; refine (HC.out _).mono ?_; rintro e w1 ⟨rfl, hb⟩; have HB1 := Lib.hid (bstep HB0.out hb); clear hb)
        | (go_at_call 12; refine (awake07 m _ ((HB1.out.cell (p := ⟨0, 0, none⟩) h₀).trans HM.out) (Nat.lt_of_lt_of_le h₀ HB1.out.size)).mono ?_; rintro e w2 ⟨rfl, hb⟩; have HB2 := Lib.hid (bstep HB1.out hb); clear hb))
      go_ret
      exact ⟨rfl, HB2.out⟩
theorem law_nextF {P : Prop} (q : Int) (s : ByteArray) (m : Int) (w : World) (_ : P) (hs : s.size ≤ maxLen) (hm : w.cell? ⟨0, 0, none⟩ = some (.int .i64 m)) (h₀ : 0 < w.heap.size) :
    Calls Try.prog 10 #[.int .i64 q, .string s] w fun e w' => e = .returned (.bool true) ∧ Below w.heap.size w w' := law_next q s m w hs hm h₀
end Go.Proofs.Gv
