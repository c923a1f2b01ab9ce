/- The law IntegerBasics, joined. -/
import Derived.Test.YtpnhccpfbeidlaaL1Basics
import Derived.Test.YtpnhccpfbeidlaaRefBas
import Derived.OpenShut
namespace Go.Proofs.Gv
open Go Go.RowKit

theorem law_basics (n : Int) (na : Bool) (sa : ByteArray) (nb : Bool) (sb : ByteArray) (w : World) (hn : (Lit.int .i64 n).wf = true) (ha : sa.size ≤ maxLen) (hb : sb.size ≤ maxLen) :
    Calls Try.prog 11 #[.int .i64 n, .agg #[.bool na, .string sa], .agg #[.bool nb, .string sb]] w fun e w' => e = .returned (.bool true) ∧ Below w.heap.size w w' := by
  have hn0 := bounds_i64 hn
  cases hgr : gr [(na, sa), (nb, sb)] with
  | true => exact basics_great na nb sa sb n ha hb hgr w
  | false =>
    have ha6 : sa.size ≤ 60 := gr_false hgr (na, sa) (by simp)
    have hb6 : sb.size ≤ 60 := gr_false hgr (nb, sb) (by simp)
    have ra : Rp na sa (iv na sa) := ⟨rfl, by omega⟩
    have rb : Rp nb sb (iv nb sb) := ⟨rfl, by omega⟩
    have hs : sa.size ≤ 1000000 := by omega
    exact basics_law _ _ _ _ _ _ _ _ n ha hb hgr _ _ _ _ _ w (fun W => Small_any na sa W (by omega)) (fun W => rSmall_any na sa W hs)
      (fun W => Of_any n W (by omega) (by omega)) (fun W => rOf_any n W (by omega) (by omega))
      (cCheckV na sa hs) (fun W => rCheck_any na sa W hs) (fun W => Neg_any na sa W (by omega)) (fun W => rneg_any na sa W hs)
      (cCmp ra rb) (fun W => rCompare_any na nb sa sb _ _ W ra rb) (fun W => Bits_any na sa W (by omega)) (fun W => rBits_any na sa W hs)
end Go.Proofs.Gv
