/- The law IntegerQuotients, joined. -/
import Derived.Test.YtpnhccpfbeidlaaL1Quotients
import Derived.Test.YtpnhccpfbeidlaaCmpP
import Derived.Test.YtpnhccpfbeidlaaRefDv
import Derived.Test.YtpnhccpfbeidlaaRefGcd
import Derived.Test.YtpnhccpfbeidlaaRefRtB
import Derived.Test.YtpnhccpfbeidlaaEuclid
import Derived.OpenShut
namespace Go.Proofs.Gv
open Go Go.RowKit

theorem law_quotients (na : Bool) (sa : ByteArray) (nb : Bool) (sb : ByteArray) (n0 : Int) (w : World) (ha : sa.size ≤ maxLen) (hb : sb.size ≤ maxLen) (hn : (Lit.int .i64 n0).wf = true) :
    Calls Try.prog 4 #[.agg #[.bool na, .string sa], .agg #[.bool nb, .string sb], .int .i64 n0] w fun e w' => e = .returned (.bool true) ∧ Below w.heap.size w w' := by
  have hn1 := bounds_i64 hn
  clear hn
  cases hgr : gr [(na, sa), (nb, sb)] with
  | true => exact quo_great na nb sa sb n0 ha hb hgr w
  | false =>
    have h60 : sa.size ≤ 60 := gr_false hgr (na, sa) (by simp)
    have h60b : sb.size ≤ 60 := gr_false hgr (nb, sb) (by simp)
    have HV := fun W => heavy_any nb sb n0 W (by omega)
    cases hv : hvB (bl (bv sb.data.toList)) n0 with
    | true =>
      rw [hv] at HV
      exact quo_heavy nb na sb sa n0 ha hb hgr w HV
    | false =>
      rw [hv] at HV
      have ra : Rp na sa (iv na sa) := ⟨rfl, by omega⟩
      have rb : Rp nb sb (iv nb sb) := ⟨rfl, by omega⟩
      have H6 : ∀ W, Calls Try.prog 25 #[.agg #[.bool nb, .string sb], .int .i64 n0] W (RetIE W (powV (iv nb sb) n0) (powE (iv nb sb) n0)) := fun W => Power_any nb sb n0 W (by omega) (by omega) (by omega)
      have H7 : ∀ W, Calls Try.prog 26 #[.agg #[.bool nb, .string sb], .int .i64 n0] W (RetIE W (powV (iv nb sb) n0) (powE (iv nb sb) n0)) := fun W => rPower_any nb sb n0 W (by omega)
      have H8 : ∀ W, Calls Try.prog 27 #[.agg #[.bool na, .string sa], .agg #[.bool nb, .string sb]] W (RetI W (Nat.gcd (bv sa.data.toList) (bv sb.data.toList) : Nat)) := fun W => Gcd_any na nb sa sb W (by omega) (by omega)
      have H9 : ∀ W, Calls Try.prog 28 #[.agg #[.bool na, .string sa], .agg #[.bool nb, .string sb]] W (RetI W (Nat.gcd (bv sa.data.toList) (bv sb.data.toList) : Nat)) := fun W => rGcd_any na nb sa sb W (by omega) (by omega)
      have HR : ∃ (z e : Int), (∀ W, Calls Try.prog 23 #[.agg #[.bool na, .string sa], .int .i64 n0] W (RetIE W z e)) ∧ (∀ W, Calls Try.prog 24 #[.agg #[.bool na, .string sa], .int .i64 n0] W (RetIE W z e)) := by
        by_cases hbad : iv na sa < 0 ∨ n0 < 1 ∨ 4096 < n0
        · exact ⟨0, 2, fun W => Root_bad na sa n0 W (by omega) (hbad.imp ra.neg id), fun W => rRoot_bad na sa n0 W (by omega) hbad⟩
        · obtain ⟨N, rfl⟩ : ∃ N : Nat, n0 = N := ⟨n0.toNat, by omega⟩
          have hA : iv na sa = (bv sa.data.toList : Nat) := by have := iv_abs na sa; omega
          exact ⟨_, 0, fun W => Root_ok na sa N W (by omega) (ra.pos (by omega)) (by omega) (by omega), fun W => rRoot_main na sa N _ W (by omega) hA (by omega) (by omega)⟩
      obtain ⟨z, e, H4, H5⟩ := HR
      by_cases h0 : iv nb sb = 0
      · have rb0 : Rp nb sb 0 := ⟨h0, by omega⟩
        exact quo_law _ _ _ _ _ _ _ _ _ _ _ _ _ _ _ ha hb hgr _ _ _ w HV (cDiv0 ra rb0) (fun W => rDiv_zero na nb sa sb _ W ra rb0) H4 H5 H6 H7 H8 H9
      · obtain ⟨q, r, hd⟩ := div_exists (iv na sa) (iv nb sb) h0
        exact quo_law _ _ _ _ _ _ _ _ _ _ _ _ _ _ _ ha hb hgr _ _ _ w HV (cDiv ra rb hd h0) (fun W => rDiv_any na nb sa sb _ _ q r W ra rb (by omega) (by omega) (by omega) hd) H4 H5 H6 H7 H8 H9
end Go.Proofs.Gv
