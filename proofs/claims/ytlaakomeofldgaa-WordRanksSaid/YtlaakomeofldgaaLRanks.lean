/- The law WordRanks, walked and joined. -/
import Derived.Test.YtlaakomeofldgaaUnBadP
import Derived.Test.YtlaakomeofldgaaRefUr
import Derived.Test.YtlaakomeofldgaaAwk07
namespace Go.Proofs.Gv
open Go Go.RowKit

set_option maxRecDepth 100000 in
set_option maxHeartbeats 4000000 in
theorem lranks_awake (q n : Int) (s : ByteArray) (na : Bool) (sa : ByteArray) (m : Int) (w : World) (hm : w.cell? ⟨0, 0, none⟩ = some (.int .i64 m)) (h₀ : 0 < w.heap.size)
    (h : ((24 < s.size ∧ s.size ≤ 65536) ∨ 65544 < s.size) ∨ ((s.size ≤ 24 ∨ (65536 < s.size ∧ s.size ≤ 65544)) ∧ (24 < n ∧ n ≤ 65536)) ∨ ((s.size ≤ 24 ∨ (65536 < s.size ∧ s.size ≤ 65544)) ∧ (n ≤ 24 ∨ 65536 < n) ∧ 16 < sa.size)) :
    Calls Try.prog 9 #[.int .i64 q, .int .i64 n, .string s, .agg #[.bool na, .string sa]] w fun e w' => e = .returned (.bool true) ∧ Below w.heap.size w w' := by
  have HM := Lib.hid (((Below.refl w.heap.size w).alloc (Nat.le_refl _) (.cells #[.bool na, .string sa] 49)).cell (p := ⟨0, 0, none⟩) h₀ |>.trans hm)
  have HL := Lib.hid ((Below.refl w.heap.size w).alloc (Nat.le_refl _) (.cells #[.bool na, .string sa] 49))
  have HB := Lib.hid (Bx.new w w.heap.size na sa rfl)
  have H0 := Lib.hid (show 0 < (w.alloc (.cells #[.bool na, .string sa] 49)).heap.size by simp)
  obtain ⟨x0, x1, x2, x3, _⟩ := id HB.out
  clear hm
  rcases h with h | ⟨h1, h2⟩ | ⟨h1, h2, h3⟩
  · have HS := Lib.hid h
    clear h
    go_enter Try.func9, Try.ntmps9
    go_wp2_with (first
      | (go_at_call 31; refine (long_t _ _ HS.out).mono ?_; rintro e w' ⟨rfl, rfl⟩)
      | (go_at_call 12; refine (awake07 m _ HM.out H0.out).mono ?_; rintro e w8 ⟨rfl, hb⟩; have HB8 := Lib.hid (bstep HL.out hb); clear hb))
    go_ret
    exact ⟨rfl, HB8.out⟩
  · have HS := Lib.hid h1
    have HN := Lib.hid h2
    clear h1 h2
    go_enter Try.func9, Try.ntmps9
    go_wp2_with (first
      | (go_at_call 31; refine (long_f _ _ HS.out).mono ?_; rintro e w' ⟨rfl, rfl⟩)
      | (go_at_call 32; refine (lnum_t _ _ HN.out).mono ?_; rintro e w' ⟨rfl, rfl⟩)
      | (go_at_call 12; refine (awake07 m _ HM.out H0.out).mono ?_; rintro e w8 ⟨rfl, hb⟩; have HB8 := Lib.hid (bstep HL.out hb); clear hb))
    go_ret
    exact ⟨rfl, HB8.out⟩
  · have HS := Lib.hid h1
    have HN := Lib.hid h2
    have t1 : decide ((16 : Int) < sa.size) = true := decide_eq_true (by omega)
    clear h1 h2 h3
    go_enter Try.func9, Try.ntmps9
    go_wp2_with (first
      | (go_at_call 31; refine (long_f _ _ HS.out).mono ?_; rintro e w' ⟨rfl, rfl⟩)
      | (go_at_call 32; refine (lnum_f _ _ HN.out).mono ?_; rintro e w' ⟨rfl, rfl⟩)
      | (go_at_call 12; refine (awake07 m _ HM.out H0.out).mono ?_; rintro e w8 ⟨rfl, hb⟩; have HB8 := Lib.hid (bstep HL.out hb); clear hb))
    go_ret
    exact ⟨rfl, HB8.out⟩

set_option maxRecDepth 100000 in
set_option maxHeartbeats 4000000 in
theorem lranks_walk (q n : Int) (s su : ByteArray) (na nr : Bool) (sa sr : ByteArray) (e1 e2 : Int) (m : Int) (w : World) (hm : w.cell? ⟨0, 0, none⟩ = some (.int .i64 m)) (h₀ : 0 < w.heap.size)
    (h1 : s.size ≤ 24 ∨ (65536 < s.size ∧ s.size ≤ 65544)) (h2 : n ≤ 24 ∨ 65536 < n) (h3 : sa.size ≤ 16)
    (H1 : ∀ W, Calls Try.prog 40 #[.int .i64 q, .string s] W fun e w' => e = .returned (.tuple #[.agg #[.bool nr, .string sr], .int .i64 e1]) ∧ Below W.heap.size W w')
    (H2 : ∀ W, Calls Try.prog 41 #[.int .i64 q, .string s] W fun e w' => e = .returned (.tuple #[.agg #[.bool nr, .string sr], .int .i64 e1]) ∧ Below W.heap.size W w')
    (H3 : ∀ W, Calls Try.prog 42 #[.int .i64 q, .int .i64 n, .agg #[.bool na, .string sa]] W fun e w' => e = .returned (.tuple #[.string su, .int .i64 e2]) ∧ Below W.heap.size W w')
    (H4 : ∀ W, Calls Try.prog 43 #[.int .i64 q, .int .i64 n, .agg #[.bool na, .string sa]] W fun e w' => e = .returned (.tuple #[.string su, .int .i64 e2]) ∧ Below W.heap.size W w') :
    Calls Try.prog 9 #[.int .i64 q, .int .i64 n, .string s, .agg #[.bool na, .string sa]] w fun e w' => e = .returned (.bool true) ∧ Below w.heap.size w w' := by
  have HM := Lib.hid hm
  have HL := Lib.hid ((Below.refl w.heap.size w).alloc (Nat.le_refl _) (.cells #[.bool na, .string sa] 49))
  have HB := Lib.hid (Bx.new w w.heap.size na sa rfl)
  have HS := Lib.hid h1
  have HN := Lib.hid h2
  have K1 := Lib.hid H1
  have K2 := Lib.hid H2
  have K3 := Lib.hid H3
  have K4 := Lib.hid H4
  have t1 : decide ((16 : Int) < sa.size) = false := decide_eq_false (by omega)
  have te : (su.toList == su.toList) = true := by simp
  have tb : eqI nr sr nr sr = true := eqI_iff.mpr ⟨rfl, rfl⟩
  obtain ⟨x0, x1, x2, x3, _⟩ := id HB.out
  clear hm h1 h2 h3 H1 H2 H3 H4
  go_enter Try.func9, Try.ntmps9
  go_wp2_with (first
    | (go_at_call 31; refine (long_f _ _ HS.out).mono ?_; rintro e w' ⟨rfl, rfl⟩)
    | (go_at_call 32; refine (lnum_f _ _ HN.out).mono ?_; rintro e w' ⟨rfl, rfl⟩)
    | (go_at_call 40; refine (K1.out _).mono ?_; rintro e w1 ⟨rfl, hb⟩; have HB1 := Lib.hid (bstep HL.out hb); have HX1 := Lib.hid (HB.out.below hb); clear hb x0 x1 x2 x3)
    | (go_at_call 41; refine (K2.out _).mono ?_; rintro e w2 ⟨rfl, hb⟩; have HB2 := Lib.hid (bstep (HB1.out.alloc HB1.out.size (.cells #[.bool nr, .string sr] 49)) hb); have HX2 := Lib.hid ((HX1.out.alloc (.cells #[.bool nr, .string sr] 49)).below hb); have HY2 := Lib.hid ((Bx.new w1 w1.heap.size nr sr rfl).below hb); have HXA := Lib.hid (HX2.out.alloc (.cells #[.bool nr, .string sr] 49)); have HYA := Lib.hid (HY2.out.alloc (.cells #[.bool nr, .string sr] 49)); have HZA := Lib.hid (Bx.new w2 w2.heap.size nr sr rfl); have HBA := Lib.hid (HB2.out.alloc HB2.out.size (.cells #[.bool nr, .string sr] 49)); clear hb; obtain ⟨x0, x1, x2, x3, _⟩ := id HXA.out)
    | (go_at_call 42; refine (K3.out _).mono ?_; rintro e w3 ⟨rfl, hb⟩; have HB3 := Lib.hid (bstep HBA.out hb); have HX3 := Lib.hid (HXA.out.below hb); have HY3 := Lib.hid (HYA.out.below hb); have HZ3 := Lib.hid (HZA.out.below hb); clear hb x0 x1 x2 x3; obtain ⟨x0, x1, x2, x3, _⟩ := id HX3.out)
    | (go_at_call 43; refine (K4.out _).mono ?_; rintro e w4 ⟨rfl, hb⟩; have HB4 := Lib.hid (bstep HB3.out hb); have HY4 := Lib.hid (HY3.out.below hb); have HZ4 := Lib.hid (HZ3.out.below hb); clear hb x0 x1 x2 x3; obtain ⟨y0, y1, y2, y3, _⟩ := id HY4.out; obtain ⟨z0, z1, z2, z3, _⟩ := id HZ4.out)
    | (go_at_call 12; refine (awake07 m _ ((HB4.out.cell (p := ⟨0, 0, none⟩) h₀).trans HM.out) (Nat.lt_of_lt_of_le h₀ HB4.out.size)).mono ?_; rintro e w5 ⟨rfl, hb⟩; have HB5 := Lib.hid (bstep HB4.out hb); clear hb))
  go_ret
  exact ⟨rfl, HB5.out⟩

/-- **The law WordRanks.** -/
theorem law_ranks {P Q : Prop} (q n : Int) (s : ByteArray) (na : Bool) (sa : ByteArray) (m : Int) (w : World) (_ : P) (_ : Q) (hs : s.size ≤ maxLen) (_ : sa.size ≤ maxLen) (hm : w.cell? ⟨0, 0, none⟩ = some (.int .i64 m)) (h₀ : 0 < w.heap.size) :
    Calls Try.prog 9 #[.int .i64 q, .int .i64 n, .string s, .agg #[.bool na, .string sa]] w fun e w' => e = .returned (.bool true) ∧ Below w.heap.size w w' := by
  by_cases h1 : s.size ≤ 24 ∨ (65536 < s.size ∧ s.size ≤ 65544)
  · by_cases h2 : n ≤ 24 ∨ 65536 < n
    · by_cases h3 : sa.size ≤ 16
      · have hs9 : s.size ≤ 9223372036854775807 := by unfold maxLen at hs; omega
        have HR2 : ∀ W, Calls Try.prog 41 #[.int .i64 q, .string s] W (RetRank q s W) := fun W => by
          by_cases hc : chk q s = 0
          · obtain ⟨Q, rfl⟩ : ∃ Q : Nat, q = Q := ⟨q.toNat, by have := (chk_ok hc).1; omega⟩
            have := (chk_ok hc).2.2.1
            exact rRank_good Q s W (by omega) hc
          · exact rRank_bad q s W hs9 hc
        have HR1 : ∀ W, Calls Try.prog 40 #[.int .i64 q, .string s] W (RetRank q s W) := fun W => Rank_any q s W hs9
        rcases ue_ways q n na sa with ⟨c, hu⟩ | ⟨Q, N, A, rfl, rfl, k1, k2, k3, rfl, rfl⟩
        · exact lranks_walk q n s _ na _ sa _ _ _ m w hm h₀ h1 h2 h3 HR1 HR2 (fun W => Un_bad q n na sa c W (by omega) hu) (fun W => rUn_bad q n na sa c W (by omega) hu)
        · exact lranks_walk Q N s _ false _ (mg A) _ _ _ m w hm h₀ h1 h2 h3 HR1 HR2 (fun W => Unrank_V Q N A W k1 k2 k3 (by omega)) (fun W => rUnrank_V Q N A W k1 k2 k3 (by omega))
      · exact lranks_awake q n s na sa m w hm h₀ (.inr (.inr ⟨h1, h2, by omega⟩))
    · exact lranks_awake q n s na sa m w hm h₀ (.inr (.inl ⟨h1, by omega⟩))
  · exact lranks_awake q n s na sa m w hm h₀ (.inl (by omega))
end Go.Proofs.Gv
