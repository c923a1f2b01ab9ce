/- The law IntegerRing, joined. -/
import Derived.Test.YtpnhccpfbeidlaaL1Ring
import Derived.Test.YtpnhccpfbeidlaaCmp
import Derived.OpenShut
namespace Go.Proofs.Gv
open Go Go.RowKit

theorem law_ring (na : Bool) (sa : ByteArray) (nb : Bool) (sb : ByteArray) (nc : Bool) (sc : ByteArray) (w : World) (ha : sa.size ≤ maxLen) (hb : sb.size ≤ maxLen) (hc : sc.size ≤ maxLen) :
    Calls Try.prog 8 #[.agg #[.bool na, .string sa], .agg #[.bool nb, .string sb], .agg #[.bool nc, .string sc]] w fun e w' => e = .returned (.bool true) ∧ Below w.heap.size w w' := by
  cases hgr : gr [(na, sa), (nb, sb), (nc, sc)] with
  | true => exact ring_great na nb nc sa sb sc ha hb hc hgr w
  | false =>
    have ha6 : sa.size ≤ 60 := gr_false hgr (na, sa) (by simp)
    have hb6 : sb.size ≤ 60 := gr_false hgr (nb, sb) (by simp)
    have hc6 : sc.size ≤ 60 := gr_false hgr (nc, sc) (by simp)
    obtain ⟨a, hA⟩ : ∃ a, iv na sa = a := ⟨_, rfl⟩
    obtain ⟨b, hB⟩ : ∃ b, iv nb sb = b := ⟨_, rfl⟩
    obtain ⟨c, hC⟩ : ∃ c, iv nc sc = c := ⟨_, rfl⟩
    have ra : Rp na sa a := ⟨hA, by omega⟩
    have rb : Rp nb sb b := ⟨hB, by omega⟩
    have rc : Rp nc sc c := ⟨hC, by omega⟩
    have la := ra.lt ha6
    have lb := rb.lt hb6
    have lc := rc.lt hc6
    obtain ⟨N, hN⟩ : ∃ N, N = 8 * 60 := ⟨_, rfl⟩
    rw [← hN] at la lb lc
    have lab := iadd_bits la lb
    have lbc := iadd_bits lb lc
    have lmab := imul_bits la lb
    have lmbc := imul_bits lb lc
    have lmac := imul_bits la lc
    have lna : (-a).natAbs < 2 ^ N := by rw [Int.natAbs_neg]; exact la
    have lnab : (-(a + b)).natAbs < 2 ^ (N + 1) := by rw [Int.natAbs_neg]; exact lab
    have rab := Rp.V (N + 1) lab (by omega)
    have rbc := Rp.V (N + 1) lbc (by omega)
    have rmab := Rp.V (N + N) lmab (by omega)
    have rmbc := Rp.V (N + N) lmbc (by omega)
    have rmac := Rp.V (N + N) lmac (by omega)
    have H1 := cAdd ra rb
    have H2 := cMul ra rb
    have H3 := cSub ra rb
    have H4 := cNeg ra
    have H5 := cAdd ra Rp.zero
    have H6 := cAdd rb ra
    rw [Int.add_comm b a] at H6
    have H7 := cMul rb ra
    rw [Int.mul_comm b a] at H7
    have H8 := cAdd rab rc
    have H9 := cAdd rb rc
    have H10 := cAdd ra rbc
    rw [← Int.add_assoc] at H10
    have H11 := cMul rmab rc
    have H12 := cMul rb rc
    have H13 := cMul ra rmbc
    rw [← Int.mul_assoc] at H13
    have H14 := cMul ra rbc
    have H15 := cMul ra rc
    have H16 := cAdd rmab rmac
    rw [← Int.mul_add] at H16
    have H17 := cSub rab rb
    rw [show a + b - b = a by omega] at H17
    have H18 := cCmp (Rp.V N la (by omega)) ra
    rw [cmpI_eq] at H18
    have H19 := cNeg rab
    have H20 := cAdd rab (Rp.V (N + 1) lnab (by omega))
    rw [show a + b + -(a + b) = 0 by omega, show (0 : Int).natAbs = 0 from rfl, mg_zero] at H20
    refine ring_law _ _ _ _ _ _ _ _ _ _ _ _ _ _ _ _ _ _ _ _ _ _ _ _ _ _ _ _ _ _ _ _ ha hb hc hgr ?_ w H1 H2 H3 H4 H5 H6 H7 H8 H9 H10 H11 H12 H13 H14 H15 H16 H17 H18 H19 H20
    intro n s hm
    have sz : ∀ {z : Int} {M : Nat}, z.natAbs < 2 ^ M → M ≤ 5000 → (mg z.natAbs).size ≤ 1000000 := fun h hM => (Rp.V _ h (by omega)).sz
    simp only [List.mem_cons, Prod.mk.injEq, List.not_mem_nil, or_false] at hm
    rcases hm with ⟨rfl, rfl⟩ | ⟨rfl, rfl⟩ | ⟨rfl, rfl⟩ | ⟨rfl, rfl⟩ | ⟨rfl, rfl⟩
    · exact cCheck _ (sz lab (by omega))
    · exact cCheck _ (sz lmab (by omega))
    · exact cCheck _ (sz (isub_bits la lb) (by omega))
    · exact cCheck _ (sz lna (by omega))
    · exact cCheck _ (sz (M := N) (by rw [Int.add_zero]; exact la) (by omega))
end Go.Proofs.Gv
