/- integer.Small. -/
import Derived.Test.YtlaakomeofldgaaLawValP
import Derived.Deep.LoopGhost
namespace Go.Proofs.Gv
open Go Go.RowKit

theorem or_small {x k : Nat} (hk : k < 2) : bits .or .u64 (((x % B32 ^ k : Nat)) : Int) (IntKind.u64.wrap ((D x k : Int) * 2 ^ (32 * k))) = ((x % B32 ^ (k + 1) : Nat) : Int) := by
  have hd := D_lt' x k
  match k, hk with
  | 0, _ =>
    have e : x % B32 ^ 0 = 0 := by simp [Nat.mod_one]
    have e1 := mod_succ x 0
    rw [e] at e1 ⊢
    rw [IntWalk.u64_in _ (by simp; omega), show ((D x 0 : Int) * 2 ^ (32 * 0)) = ((D x 0 : Nat) : Int) by simp, u64_or_nat _ _ (by omega) (by omega), e1]
    simp
  | 1, _ =>
    have e1 := mod_succ x 1
    have hm : x % B32 ^ 1 < B32 := by rw [Nat.pow_one]; exact Nat.mod_lt _ B32_pos
    have hB := B32_eq
    rw [IntWalk.u64_in _ (by simp; omega), show ((D x 1 : Int) * 2 ^ (32 * 1)) = ((D x 1 * 2 ^ 32 : Nat) : Int) by simp, u64_or_nat _ _ (by omega) (by omega), e1, Nat.or_comm, nat_join 32 _ _ (Nat.mul_mod_left _ _) (by omega)]
    rw [hB, Nat.pow_one]
    congr 1
    omega
/-- What Small answers. -/
def smB (z : Int) : Bool := decide (-9223372036854775808 ≤ z ∧ z < 9223372036854775808)
def smV (z : Int) : Int := if smB z = true then z else 0

set_option maxHeartbeats 1600000 in
theorem Small_any (na : Bool) (sa : ByteArray) (w : World) (ha : sa.size ≤ 30000000) :
    Calls Try.prog 69 #[.agg #[.bool na, .string sa]] w fun e w' => e = .returned (.tuple #[.int .i64 (smV (iv na sa)), .bool (smB (iv na sa))]) ∧ Below w.heap.size w w' := by
  have L1 := nlen_bv (s := sa)
  go_enter Try.func69, Try.ntmps69
  go_wp2_with fail
  have HO := Lib.hid (Own.one w (.cells #[.bool na, .string sa] 49))
  refine (digits_any na sa _ (by omega)).mono ?_
  rintro e w1 ⟨A, c, rfl, hn, hb⟩
  have HO1 := Lib.hid (HO.out.next hb)
  have Hn := Lib.hid hn
  clear hn hb
  have hz := Lib.hid (show iv na sa = if na then -(bv sa.data.toList : Int) else bv sa.data.toList from rfl)
  obtain ⟨x, hx⟩ : ∃ x, bv sa.data.toList = x := ⟨_, rfl⟩
  rw [hx] at Hn L1 hz ⊢
  clear hx
  by_cases h2 : 2 < nlen x
  · have h2I : decide ((2 : Int) < nlen x) = true := by simp; omega
    have hbig : B32 ^ 2 ≤ x := lt_nlen_iff.1 h2
    have hbig' : 18446744073709551616 ≤ x := hbig
    have hB : smB (iv na sa) = false := by rw [hz.out]; unfold smB; cases na <;> simp <;> omega
    have hV : smV (iv na sa) = 0 := by unfold smV; rw [hB]; rfl
    have HBV := Lib.hid (And.intro hB hV)
    clear hbig hbig' hB hV
    go_wp2
    go_ret2
    exact ⟨by rw [HBV.out.1, HBV.out.2]; rfl, HO1.out.below⟩
  · have h2I : decide ((2 : Int) < nlen x) = false := by simp; omega
    have hlt : x < B32 ^ 2 := nlen_le_iff.1 (by omega)
    have hlt' : x < 18446744073709551616 := hlt
    obtain ⟨bx0, bx1, _, _, bx4⟩ := HO1.out.blk 0 w.heap.size rfl rfl
    have HX := Lib.hid hlt'
    have HR := Lib.hid Hn.out.rd
    clear hlt hlt'
    go_wp2_with fail
    go_loopg [5, 6, 7, 15] 3 (fun gg v5 v6 v7 v15 wr => w1 = wr ∧ ∃ k : Nat, v15 = .int .i64 k ∧ k ≤ nlen x ∧ nlen x + 1 - k ≤ gg ∧ v5 = .int .u64 (x % B32 ^ k : Nat))
    case atStart => exact ⟨rfl, 0, rfl, by omega, by omega, by rw [Nat.pow_zero, Nat.mod_one]; rfl⟩
    case round =>
      obtain ⟨rfl, k, rfl, hk, hm, rfl⟩ := hrel
      by_cases hkl : k < nlen x
      · obtain ⟨g, hg0, hg, hcell⟩ := HR.out (by omega)
        subst hg0
        have hc0 := hcell k hkl
        have hd := D_lt' x k
        have hkI : (k : Int) < nlen x := by omega
        have HOR := Lib.hid (or_small (x := x) (k := k) (by omega))
        clear hcell
        go_wp2
        go_roundg (nlen x - k)
        case rel => exact ⟨rfl, k + 1, by go_num, by omega, by omega, by rw [show ((x : Int) % (B32 : Int) ^ k) = ((x % B32 ^ k : Nat) : Int) by simp, HOR.out]⟩
        case measure => omega
      · have hkB : decide ((k : Int) < nlen x) = false := by simp; omega
        have hkB2 : decide (k < nlen x) = false := by simp; omega
        obtain rfl : k = nlen x := by omega
        rw [Nat.mod_eq_of_lt (lt_pow_nlen x)]
        clear hkl
        have hx64 := HX.out
        cases na
        · have hz2 : iv false sa = (x : Int) := by rw [hz.out]; rfl
          by_cases h3 : x < 9223372036854775808
          · have h3I : (x : Int) < 9223372036854775808 := by omega
            have hB : smB (iv false sa) = true := by rw [hz2]; unfold smB; simp; omega
            have hV : smV (iv false sa) = x := by unfold smV; rw [hB, hz2]; rfl
            have HBV := Lib.hid (And.intro hB hV)
            clear hz2 hB hV h3
            go_wp2
            go_ret2
            exact ⟨by rw [HBV.out.1, HBV.out.2]; rfl, HO1.out.below⟩
          · have h3I : decide ((x : Int) < 9223372036854775808) = false := by simp; omega
            have h3N : decide (x < 9223372036854775808) = false := by simp; omega
            have hB : smB (iv false sa) = false := by rw [hz2]; unfold smB; simp; omega
            have hV : smV (iv false sa) = 0 := by unfold smV; rw [hB]; rfl
            have HBV := Lib.hid (And.intro hB hV)
            clear hz2 hB hV h3
            go_wp2
            go_ret2
            exact ⟨by rw [HBV.out.1, HBV.out.2]; rfl, HO1.out.below⟩
        · have hz2 : iv true sa = -(x : Int) := by rw [hz.out]; rfl
          by_cases h3 : x ≤ 9223372036854775808
          · have h3I : (x : Int) ≤ 9223372036854775808 := by omega
            have hB : smB (iv true sa) = true := by rw [hz2]; unfold smB; simp; omega
            have hV : smV (iv true sa) = -(x : Int) := by unfold smV; rw [hB, hz2]; rfl
            have hW : IntKind.i64.wrap (IntKind.u64.wrap (-(x : Int))) = -(x : Int) := by rw [IntKind.wrap_u64, IntKind.wrap_i64]; omega
            have HBV := Lib.hid (And.intro hB hV)
            clear hz2 hB hV h3
            go_wp2
            go_ret2
            exact ⟨by rw [HBV.out.1, HBV.out.2]; rfl, HO1.out.below⟩
          · have h3I : decide ((x : Int) ≤ 9223372036854775808) = false := by simp; omega
            have h3N : decide (x ≤ 9223372036854775808) = false := by simp; omega
            have hB : smB (iv true sa) = false := by rw [hz2]; unfold smB; simp; omega
            have hV : smV (iv true sa) = 0 := by unfold smV; rw [hB]; rfl
            have HBV := Lib.hid (And.intro hB hV)
            clear hz2 hB hV h3
            go_wp2
            go_ret2
            exact ⟨by rw [HBV.out.1, HBV.out.2]; rfl, HO1.out.below⟩
end Go.Proofs.Gv
