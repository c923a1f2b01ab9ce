/- The law IntegerOrder, joined. -/
import Derived.Test.YtpnhccpfbeidlaaL1Order
import Derived.Test.YtpnhccpfbeidlaaCmp
import Derived.OpenShut
namespace Go.Proofs.Gv
open Go Go.RowKit

theorem law_order (na : Bool) (sa : ByteArray) (nb : Bool) (sb : ByteArray) (nc : Bool) (sc : ByteArray) (w : World) (ha : sa.size ≤ maxLen) (hb : sb.size ≤ maxLen) (hc : sc.size ≤ maxLen) :
    Calls Try.prog 7 #[.agg #[.bool na, .string sa], .agg #[.bool nb, .string sb], .agg #[.bool nc, .string sc]] w fun e w' => e = .returned (.bool true) ∧ Below w.heap.size w w' := by
  cases hgr : gr [(na, sa), (nb, sb), (nc, sc)] with
  | true => exact order_great na nb nc sa sb sc ha hb hc hgr w
  | false =>
    have ha6 : sa.size ≤ 60 := gr_false hgr (na, sa) (by simp)
    have hb6 : sb.size ≤ 60 := gr_false hgr (nb, sb) (by simp)
    have hc6 : sc.size ≤ 60 := gr_false hgr (nc, sc) (by simp)
    obtain ⟨a, hA⟩ : ∃ a, iv na sa = a := ⟨_, rfl⟩
    obtain ⟨b, hB⟩ : ∃ b, iv nb sb = b := ⟨_, rfl⟩
    obtain ⟨c, hC⟩ : ∃ c, iv nc sc = c := ⟨_, rfl⟩
    have ra : Rp na sa a := ⟨hA, by omega⟩
    have rb : Rp nb sb b := ⟨hB, by omega⟩
    have rc : Rp nc sc c := ⟨hC, by omega⟩
    have la := ra.lt ha6
    have lb := rb.lt hb6
    have lc := rc.lt hc6
    obtain ⟨N, hN⟩ : ∃ N, N = 8 * 60 := ⟨_, rfl⟩
    rw [← hN] at la lb lc
    have hbt : bl a.natAbs ≤ 480 := by have := bl_lt la; omega
    have H1 := cCmp ra rb
    have H2 := cCmp rb ra
    have H3 := cSub ra rb
    have H4 := cCmp (Rp.V (N + 1) (isub_bits la lb) (by omega)) Rp.zero
    rw [cmpI_congr (a := a - b) (b := 0) (c := a) (d := b) (by omega) (by omega)] at H4
    have H5 := cNeg rb
    have H6 := cNeg ra
    have lna : (-a).natAbs < 2 ^ N := by rw [Int.natAbs_neg]; exact la
    have lnb : (-b).natAbs < 2 ^ N := by rw [Int.natAbs_neg]; exact lb
    have rna := Rp.V N lna (by omega)
    have H7 := cCmp (Rp.V N lnb (by omega)) rna
    rw [cmpI_congr (a := -b) (b := -a) (c := a) (d := b) (by omega) (by omega)] at H7
    have H8 := cAdd ra rc
    have H9 := cAdd rb rc
    have H10 := cCmp (Rp.V (N + 1) (iadd_bits la lc) (by omega)) (Rp.V (N + 1) (iadd_bits lb lc) (by omega))
    rw [cmpI_congr (a := a + c) (b := b + c) (c := a) (d := b) (by omega) (by omega)] at H10
    have H11 := cCmp rb rc
    have H12 := cCmp ra rc
    have H13 := cCmp ra Rp.zero
    have H14 := cBits ra
    have hcase : decide (cmpI a b ≤ 0) = false ∨ (decide (cmpI a b ≤ 0) = true ∧ decide (cmpI b c ≤ 0) = false) ∨ (decide (cmpI a b ≤ 0) = true ∧ decide (cmpI b c ≤ 0) = true ∧ decide (0 < cmpI a c) = false) := by
      rcases cmpI_cases a b with ⟨h, e, _⟩ | ⟨h, e, _⟩ | ⟨h, e, _⟩ <;> rcases cmpI_cases b c with ⟨h', e', _⟩ | ⟨h', e', _⟩ | ⟨h', e', _⟩ <;> rcases cmpI_cases a c with ⟨h'', e'', _⟩ | ⟨h'', e'', _⟩ | ⟨h'', e'', _⟩ <;> rw [e, e', e''] <;> first | omega | decide
    have hnn : IntKind.i64.wrap (-cmpI b a) = cmpI a b ∧ decide (cmpI a b < -1) = false ∧ decide (1 < cmpI a b) = false := by
      rcases cmpI_cases a b with ⟨_, e, e'⟩ | ⟨_, e, e'⟩ | ⟨_, e, e'⟩ <;> rw [e, e'] <;> decide
    have hpow : ∀ k, k ≤ 480 → ((2 : Int) ^ k).natAbs < 2 ^ (k + 1) := fun k _ => by
      rw [Int.natAbs_pow, show (2 : Int).natAbs = 2 from rfl]
      exact Nat.pow_lt_pow_right (by decide) (by omega)
    have rp : ∀ k, k ≤ 480 → Rp (sgn ((2 : Int) ^ k)) (mg ((2 : Int) ^ k).natAbs) ((2 : Int) ^ k) := fun k hk => Rp.V (k + 1) (hpow k hk) (by omega)
    have HAD : ∀ k, k < bl a.natAbs → Hid (∀ W, Calls Try.prog 14 #[.agg #[.bool (sgn ((2 : Int) ^ k)), .string (mg ((2 : Int) ^ k).natAbs)], .agg #[.bool (sgn ((2 : Int) ^ k)), .string (mg ((2 : Int) ^ k).natAbs)]] W fun e w' => e = .returned (.agg #[.bool (sgn ((2 : Int) ^ (k + 1))), .string (mg ((2 : Int) ^ (k + 1)).natAbs)]) ∧ Below W.heap.size W w') := fun k hk => by
      have := cAdd (rp k (by omega)) (rp k (by omega))
      rw [show (2 : Int) ^ k + 2 ^ k = 2 ^ (k + 1) by rw [Int.pow_succ]; omega] at this
      exact Lib.hid this
    have H15 := fun W => Of_any 1 W (by decide) (by decide)
    obtain ⟨nz, sz, hz, rz⟩ : ∃ nz sz, ((decide (cmpI a 0 < 0) = true ∧ sgn (-a) = nz ∧ mg (-a).natAbs = sz) ∨ (decide (cmpI a 0 < 0) = false ∧ na = nz ∧ sa = sz)) ∧ Rp nz sz (a.natAbs : Nat) := by
      by_cases h : a < 0
      · exact ⟨_, _, .inl ⟨by rw [cmpI_lt h]; rfl, rfl, rfl⟩, by rw [show ((a.natAbs : Nat) : Int) = -a by omega]; exact rna⟩
      · exact ⟨_, _, .inr ⟨by unfold cmpI; rw [if_neg h]; split <;> rfl, rfl, rfl⟩, by rw [show ((a.natAbs : Nat) : Int) = a by omega]; exact ra⟩
    obtain ⟨x, hx⟩ : ∃ x, a.natAbs = x := ⟨_, rfl⟩
    rw [hx] at rz H14 HAD hbt
    have key : ∃ (hn : Nat → Bool) (hs : Nat → ByteArray), (hn 0 = false ∧ hs 0 = ⟨#[]⟩) ∧ (∀ k, hn (k + 1) = sgn ((2 : Int) ^ k) ∧ hs (k + 1) = mg ((2 : Int) ^ k).natAbs) :=
      ⟨fun k => match k with | 0 => false | k + 1 => sgn ((2 : Int) ^ k), fun k => match k with | 0 => ⟨#[]⟩ | k + 1 => mg ((2 : Int) ^ k).natAbs, ⟨rfl, rfl⟩, fun k => ⟨rfl, rfl⟩⟩
    obtain ⟨hn, hs, hh0, hhs⟩ := key
    have hlt : (x : Int) < 2 ^ bl x := by
      by_cases e : x = 0
      · subst e; rw [bl_zero]; decide
      · have := (bl_spec e).2.2
        exact_mod_cast this
    have HC2 := cCmp rz (rp (bl x) hbt)
    rw [cmpI_lt hlt] at HC2
    obtain ⟨h, rh, hle⟩ : ∃ h, Rp (hn (bl x)) (hs (bl x)) h ∧ h ≤ (x : Int) := by
      by_cases e : x = 0
      · subst e; rw [bl_zero, hh0.1, hh0.2]; exact ⟨0, Rp.zero, by omega⟩
      · obtain ⟨b0, b1, _⟩ := bl_spec e
        rw [show bl x = bl x - 1 + 1 by omega, (hhs _).1, (hhs _).2]
        exact ⟨_, rp (bl x - 1) (by omega), by exact_mod_cast b1⟩
    have HC1 := cCmp rz rh
    have hc2 : decide (0 ≤ cmpI (x : Int) h) = true := by unfold cmpI; rw [if_neg (by omega)]; split <;> rfl
    exact order_law _ _ _ _ _ _ _ _ _ _ _ _ _ _ _ _ ha hb hc hgr _ _ _ _ hnn hcase nz sz _ _ (bl x) hbt (fun k => sgn ((2 : Int) ^ k)) hn (fun k => mg ((2 : Int) ^ k).natAbs) hs hh0 hhs hc2 hz HAD (Lib.hid HC1) (Lib.hid HC2) w H1 H2 H3 H4 H5 H6 H7 H8 H9 H10 H11 H12 H13 H14 H15
end Go.Proofs.Gv
