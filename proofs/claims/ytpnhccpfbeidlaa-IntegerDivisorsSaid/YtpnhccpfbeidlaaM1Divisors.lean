/- The law IntegerDivisors, joined. -/
import Derived.Test.YtpnhccpfbeidlaaL1Divisors
import Derived.Test.YtpnhccpfbeidlaaCmp
import Derived.Test.YtpnhccpfbeidlaaEuclid
import Derived.OpenShut
namespace Go.Proofs.Gv
open Go Go.RowKit

theorem cGcd {na nb : Bool} {sa sb : ByteArray} {a b : Int} (ha : Rp na sa a) (hb : Rp nb sb b) (W : World) :
    Calls Try.prog 27 #[.agg #[.bool na, .string sa], .agg #[.bool nb, .string sb]] W fun e w' => e = .returned (.agg #[.bool false, .string (mg (Nat.gcd a.natAbs b.natAbs))]) ∧ Below W.heap.size W w' := by
  have := Gcd_any na nb sa sb W ha.sz hb.sz
  rw [← ha.abs, ← hb.abs] at this
  refine this.mono ?_
  rintro e w' ⟨rfl, h⟩
  exact ⟨by rw [show sgn ((Nat.gcd a.natAbs b.natAbs : Nat) : Int) = false from decide_eq_false (by omega)]; rfl, h⟩
theorem Rp.nat (N : Nat) {g : Nat} (h : g < 2 ^ N) (hN : N ≤ 7900000) : Rp false (mg g) (g : Int) := by
  have := Rp.V (z := (g : Int)) N (by simpa using h) hN
  rwa [show sgn (g : Int) = false from decide_eq_false (by omega), show (g : Int).natAbs = g from rfl] at this
theorem gcd_parts {x y : Nat} (h : Nat.gcd x y ≠ 0) : Nat.gcd (x / Nat.gcd x y) (y / Nat.gcd x y) = 1 := by
  rw [Nat.gcd_div (Nat.gcd_dvd_left x y) (Nat.gcd_dvd_right x y), Nat.div_self (by omega)]
theorem div_exact {a : Int} {g : Nat} (hg : g ∣ a.natAbs) (h0 : g ≠ 0) : DivSpec a (g : Int) (a / g) 0 ∧ (a / (g : Int)).natAbs = a.natAbs / g := by
  obtain ⟨k, hk⟩ := Int.dvd_natAbs.1 (Int.natCast_dvd_natCast.2 hg)
  have hg0 : (g : Int) ≠ 0 := by omega
  rw [hk, Int.mul_ediv_cancel_left _ hg0, Int.natAbs_mul, Int.natAbs_natCast, Nat.mul_div_cancel_left _ (by omega)]
  exact ⟨⟨by rw [Int.mul_comm]; omega, .inl ⟨Int.le_refl _, by omega⟩⟩, rfl⟩
theorem cMulG {n : Bool} {s : ByteArray} {z c : Int} {g : Nat} (rg : Rp false (mg g) (g : Int)) (hr : Rp n s z) (hz : z = (c.natAbs : Int)) (W : World) :
    Calls Try.prog 18 #[.agg #[.bool false, .string (mg g)], .agg #[.bool n, .string s]] W fun e w' => e = .returned (.agg #[.bool false, .string (mg (g * c.natAbs))]) ∧ Below W.heap.size W w' := by
  have := cMul rg hr W
  rw [hz, show (g : Int) * (c.natAbs : Int) = ((g * c.natAbs : Nat) : Int) by simp, show sgn ((g * c.natAbs : Nat) : Int) = false from decide_eq_false (by omega), Int.natAbs_natCast] at this
  exact this
set_option maxHeartbeats 1000000 in
theorem law_divisors (na : Bool) (sa : ByteArray) (nb : Bool) (sb : ByteArray) (nc : Bool) (sc : ByteArray) (w : World) (ha : sa.size ≤ maxLen) (hb : sb.size ≤ maxLen) (hc : sc.size ≤ maxLen) :
    Calls Try.prog 9 #[.agg #[.bool na, .string sa], .agg #[.bool nb, .string sb], .agg #[.bool nc, .string sc]] w fun e w' => e = .returned (.bool true) ∧ Below w.heap.size w w' := by
  cases hgr : gr [(na, sa), (nb, sb), (nc, sc)] with
  | true => exact divisors_great na nb nc sa sb sc ha hb hc hgr w
  | false =>
    have ha6 : sa.size ≤ 60 := gr_false hgr (na, sa) (by simp)
    have hb6 : sb.size ≤ 60 := gr_false hgr (nb, sb) (by simp)
    have hc6 : sc.size ≤ 60 := gr_false hgr (nc, sc) (by simp)
    obtain ⟨a, hA⟩ : ∃ a, iv na sa = a := ⟨_, rfl⟩
    obtain ⟨b, hB⟩ : ∃ b, iv nb sb = b := ⟨_, rfl⟩
    obtain ⟨c, hC⟩ : ∃ c, iv nc sc = c := ⟨_, rfl⟩
    have ra : Rp na sa a := ⟨hA, by omega⟩
    have rb : Rp nb sb b := ⟨hB, by omega⟩
    have rc : Rp nc sc c := ⟨hC, by omega⟩
    have la := ra.lt ha6
    have lb := rb.lt hb6
    have lc := rc.lt hc6
    obtain ⟨N, hN⟩ : ∃ N, N = 8 * 60 := ⟨_, rfl⟩
    rw [← hN] at la lb lc
    obtain ⟨g, hg⟩ : ∃ g, Nat.gcd a.natAbs b.natAbs = g := ⟨_, rfl⟩
    have hga : g ∣ a.natAbs := by rw [← hg]; exact Nat.gcd_dvd_left _ _
    have hgb : g ∣ b.natAbs := by rw [← hg]; exact Nat.gcd_dvd_right _ _
    have lg : g < 2 ^ N := by
      rcases Nat.eq_zero_or_pos a.natAbs with h | h
      · rw [h, Nat.gcd_zero_left] at hg; rw [← hg]; exact lb
      · exact Nat.lt_of_le_of_lt (Nat.le_of_dvd h hga) la
    have rg := Rp.nat N lg (by omega)
    have lac := imul_bits la lc
    have lbc := imul_bits lb lc
    have rac := Rp.V (N + N) lac (by omega)
    have rbc := Rp.V (N + N) lbc (by omega)
    have HG := cGcd ra rb
    rw [hg] at HG
    have HC1 := cCmp rc Rp.zero
    have HG2 := cGcd rb ra
    rw [Nat.gcd_comm, hg] at HG2
    have HAC := cMul ra rc
    have HBC := cMul rb rc
    have HH := cGcd rac rbc
    rw [show Nat.gcd (a * c).natAbs (b * c).natAbs = g * c.natAbs by rw [Int.natAbs_mul, Int.natAbs_mul, Nat.gcd_mul_right, hg]] at HH
    have HN := cNeg rc
    have lnc : (-c).natAbs < 2 ^ N := by rw [Int.natAbs_neg]; exact lc
    have rnc := Rp.V N lnc (by omega)
    have HZA := cCmp ra Rp.zero
    have HZB := cCmp rb Rp.zero
    have HP := (div_exact (a := a) hga)
    have HQ := (div_exact (a := b) hgb)
    by_cases hg0 : g = 0
    · have ea : a = 0 := by rw [hg0] at hga; have := Nat.eq_zero_of_zero_dvd hga; omega
      have eb : b = 0 := by rw [hg0] at hgb; have := Nat.eq_zero_of_zero_dvd hgb; omega
      rw [ea, cmpI_eq] at HZA
      rw [eb, cmpI_eq] at HZB
      rw [hg0, mg_zero] at HG HG2
      rw [hg0] at HH
      by_cases hcn : c < 0
      · have H8 := cMulG (c := c) rg rnc (by omega)
        rw [hg0, mg_zero] at H8
        exact divisors_zero_neg _ _ _ _ _ _ _ _ _ _ _ _ _ _ ha hb hc hgr (cmpI c 0) (by rw [cmpI_lt0]; exact decide_eq_true hcn) w HG HC1 HN HG2 HAC HBC HH H8 HZA HZB
      · have H8 := cMulG (c := c) rg rc (by omega)
        rw [hg0, mg_zero] at H8
        exact divisors_zero_pos _ _ _ _ _ _ _ _ _ _ _ _ ha hb hc hgr (cmpI c 0) (by rw [cmpI_lt0]; exact decide_eq_false hcn) w HG HC1 HG2 HAC HBC HH H8 HZA HZB
    · obtain ⟨hp1, hp2⟩ := HP hg0
      obtain ⟨hq1, hq2⟩ := HQ hg0
      have hz : eqI false (mg g) false ⟨#[]⟩ = false := by
        rw [Bool.eq_false_iff]
        intro h
        have := (eqI_iff.mp h).2
        rw [← mg_zero] at this
        have e := congrArg (fun s : ByteArray => bv s.data.toList) this
        simp only [bv_mg] at e
        exact hg0 e
      have lp : (a / (g : Int)).natAbs < 2 ^ N := by rw [hp2]; exact Nat.lt_of_le_of_lt (Nat.div_le_self _ _) la
      have lq : (b / (g : Int)).natAbs < 2 ^ N := by rw [hq2]; exact Nat.lt_of_le_of_lt (Nat.div_le_self _ _) lb
      have HD1 := cDiv ra rg hp1 (by omega)
      have HD2 := cDiv rb rg hq1 (by omega)
      rw [show mg (Int.natAbs 0) = ⟨#[]⟩ from mg_zero, show sgn 0 = false from rfl] at HD1 HD2
      have HO := cGcd (Rp.V N lp (by omega)) (Rp.V N lq (by omega))
      rw [show Nat.gcd (a / (g : Int)).natAbs (b / (g : Int)).natAbs = 1 by rw [hp2, hq2, ← hg, gcd_parts (by rw [hg]; exact hg0)]] at HO
      have HO1 := fun W => (Of_any 1 W (by omega) (by omega))
      by_cases hcn : c < 0
      · exact divisors_main_neg _ _ _ _ _ _ _ _ _ _ _ _ _ _ _ _ _ _ ha hb hc hgr (cmpI c 0) (by rw [cmpI_lt0]; exact decide_eq_true hcn) _ _ hz w HG HC1 HN HG2 HAC HBC HH (cMulG (c := c) rg rnc (by omega)) HD1 HD2 HO HO1
      · exact divisors_main_pos _ _ _ _ _ _ _ _ _ _ _ _ _ _ _ _ ha hb hc hgr (cmpI c 0) (by rw [cmpI_lt0]; exact decide_eq_false hcn) _ _ hz w HG HC1 HG2 HAC HBC HH (cMulG (c := c) rg rc (by omega)) HD1 HD2 HO HO1
end Go.Proofs.Gv
