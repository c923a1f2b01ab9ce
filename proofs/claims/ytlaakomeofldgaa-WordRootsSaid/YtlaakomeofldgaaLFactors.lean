/- The law WordFactors, walked. -/
import Derived.Test.YtlaakomeofldgaaRefRev
import Derived.Test.YtlaakomeofldgaaRefRoot
namespace Go.Proofs.Gv
open Go Go.RowKit

theorem IntsAt.below {W W' : World} {B : Nat} {v : Value} {l : List Nat} (h : IntsAt W B v l) (hb : Below W.heap.size W W') : IntsAt W' B v l := by
  refine ⟨h.form, ?_⟩
  rcases h.at0 with h0 | ⟨g, c, e, h1, h2, h3, h4, h5⟩
  · exact .inl h0
  · exact .inr ⟨g, c, e, h1, Nat.lt_of_lt_of_le h2 hb.size, h3, fun j hj => (hb.cell (p := ⟨g, j, none⟩) h2).trans (h4 j hj), fun j hj => (hb.frozen (p := ⟨g, j, none⟩) h2).trans (h5 j hj)⟩
theorem cast_getD (l : List Nat) (j : Nat) : (l.map fun (x : Nat) => (x : Int)).getD j 0 = (l.getD j 0 : Nat) := by
  rw [List.getD_eq_getElem?_getD, List.getD_eq_getElem?_getD, List.getElem?_map]
  cases l[j]? <;> rfl
/-- slices.Equal at two slices that hold the same numbers. -/
theorem equal_ints {W : World} {B1 B2 : Nat} {v1 v2 : Value} {l : List Nat} (h1 : IntsAt W B1 v1 l) (h2 : IntsAt W B2 v2 l) (hl : l.length ≤ 1000000000) :
    Calls Try.prog 18 #[v1, v2] W fun e w' => e = .returned (.bool true) ∧ ∃ q, w' = W.drewN q := by
  rcases h1.at0 with h0 | ⟨g, c, rfl, _, _, _, a4, _⟩
  · subst h0
    obtain ⟨a1, c1, rfl⟩ := h1.form
    obtain ⟨a2, c2, rfl⟩ := h2.form
    refine (Try.slices_Equal_int_empty a1 a2 c1 0 c2 W (by decide)).mono fun e w' h => ⟨by rw [h.1]; rfl, 0, h.2⟩
  · rcases h2.at0 with h0 | ⟨g2, c2, rfl, _, _, _, b4, _⟩
    · subst h0
      obtain ⟨a2, c2, rfl⟩ := h2.form
      refine (Try.slices_Equal_int_empty _ a2 c 0 c2 W (by decide)).mono fun e w' h => ⟨by rw [h.1]; rfl, 0, h.2⟩
    · refine (Try.slices_Equal_int g 0 l.length c g2 0 l.length c2 (l.map fun (x : Nat) => (x : Int)) (l.map fun (x : Nat) => (x : Int)) W (by simp) (by simp) (by omega) (by omega) (fun j hj => ?_) (fun j hj => ?_)).mono fun e w' h => ⟨by rw [h.1]; simp, h.2⟩
      · rw [Nat.zero_add, a4 j (by simpa using hj), cast_getD]
      · rw [Nat.zero_add, b4 j (by simpa using hj), cast_getD]

theorem Dr.below {w W : World} {n : Nat} (h : Dr w W) : Below n w W := by
  obtain ⟨q, rfl⟩ := h
  exact below_drewN (Below.refl _ _) _

set_option maxRecDepth 100000 in
set_option maxHeartbeats 1600000 in
theorem law_factors (s u : ByteArray) (m : Int) (w : World) (hs : s.size ≤ maxLen) (hu : u.size ≤ maxLen) (hm : w.cell? ⟨0, 0, none⟩ = some (.int .i64 m)) (h₀ : 0 < w.heap.size) :
    Calls Try.prog 4 #[.string s, .string u] w fun e w' => e = .returned (.bool true) ∧ Below w.heap.size w w' := by
  unfold maxLen at hs hu
  have HM := Lib.hid hm
  clear hm
  by_cases h1 : 40 < s.size
  · go_enter Try.func4, Try.ntmps4
    go_wp2_with (go_at_call 12; refine (awake07 m _ HM.out h₀).mono ?_; rintro e w' ⟨rfl, hb⟩)
    go_ret
    exact ⟨rfl, hb⟩
  · by_cases h2 : 40 < u.size
    · go_enter Try.func4, Try.ntmps4
      go_wp2_with (go_at_call 12; refine (awake07 m _ HM.out h₀).mono ?_; rintro e w' ⟨rfl, hb⟩)
      go_ret
      exact ⟨rfl, hb⟩
    · have hol := occL_length s.data.toList u.data.toList (s.size + 1)
      have HB0 := Lib.hid (Below.refl w.heap.size w)
      go_enter Try.func4, Try.ntmps4
      go_wp2_with (first
        | (go_at_call 16; refine (Root_any _ _ (by omega)).mono ?_; rintro e w1 ⟨rfl, hb⟩; have HB1 := Lib.hid (bstep HB0.out hb); clear hb)
        | (go_at_call 17; refine (refRoot_any _ _ (by omega)).mono ?_; rintro e w2 ⟨rfl, hb⟩; have HB2 := Lib.hid (bstep HB1.out hb); clear hb)
        | (go_at_call 19; refine (Find_any s u m (by omega) (by omega) _ ((HB2.out.cell (p := ⟨0, 0, none⟩) h₀).trans HM.out) (Nat.lt_of_lt_of_le h₀ HB2.out.size)).mono ?_; rintro e w3 ⟨v3, rfl, r3, hb⟩; have HB3 := Lib.hid (bstep HB2.out hb); have R3 := Lib.hid (IntsAt.of_row r3); clear hb r3)
        | (go_at_call 20; refine (refFind_any s u _ (by omega) (by omega)).mono ?_; rintro e w4 ⟨v4, rfl, r4, hb⟩; have HB4 := Lib.hid (bstep HB3.out hb); have R4 := Lib.hid (IntsAt.of_row r4); have R34 := Lib.hid (R3.out.below hb); clear hb r4)
        | (go_at_call 18; refine (equal_ints R34.out R4.out (by omega)).mono ?_; rintro e w5 ⟨rfl, q5, rfl⟩)
        | (go_at_call 13; refine (Border_any _ _ (by omega)).mono ?_; rintro e w6 ⟨rfl, hb⟩; have HB6 := Lib.hid (bstep HB4.out hb); clear hb)
        | (go_at_call 21; refine (refBorder_any _ _ (by omega)).mono ?_; rintro e w7 ⟨rfl, hb⟩; have HB7 := Lib.hid (bstep HB6.out hb.below); clear hb)
        | (go_at_call 14; refine (Period_any _ _ (by omega)).mono ?_; rintro e w8 ⟨rfl, hb⟩; have HB8 := Lib.hid (bstep HB7.out hb); clear hb)
        | (go_at_call 22; refine (refPeriod_any _ _ (by omega)).mono ?_; rintro e w9 ⟨rfl, hb⟩; have HB9 := Lib.hid (bstep HB8.out hb.below); clear hb)
        | (go_at_call 23; refine (Reverse_any _ _ (by omega)).mono ?_; rintro e wa ⟨rfl, hb⟩; have HBa := Lib.hid (bstep HB9.out hb); clear hb)
        | (go_at_call 24; refine (refReverse_any _ _ (by omega)).mono ?_; rintro e wb ⟨rfl, hb⟩; have HBb := Lib.hid (bstep HBa.out hb); clear hb)
        | (go_at_call 12; refine (awake07 m _ ((HBb.out.cell (p := ⟨0, 0, none⟩) h₀).trans HM.out) (Nat.lt_of_lt_of_le h₀ HBb.out.size)).mono ?_; rintro e wc ⟨rfl, hb⟩; have HBc := Lib.hid (bstep HBb.out hb); clear hb))
      go_ret
      exact ⟨rfl, HBc.out⟩
end Go.Proofs.Gv
