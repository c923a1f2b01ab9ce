/- The law IntegerTexts, joined. -/
import Derived.Test.YtpnhccpfbeidlaaDoorL1Texts
import Derived.Test.YtpnhccpfbeidlaaDoorLawVal
import Derived.Test.YtpnhccpfbeidlaaDoorRefPrs
import Derived.Test.YtpnhccpfbeidlaaDoorRefPrt
import Derived.OpenShut
namespace Go.Proofs.Gv
open Go Go.RowKit

theorem law_texts (na : Bool) (sa : ByteArray) (st : ByteArray) (w : World) (ha : sa.size ≤ maxLen) (hs : st.size ≤ maxLen) :
    Calls Tryd.prog 3 #[.agg #[.bool na, .string sa], .string st] w fun e w' => e = .returned (.bool true) ∧ Below w.heap.size w w' := by
  have hs9 : st.size ≤ 9223372036854775807 := by unfold maxLen at hs; omega
  cases hgr : gr [(na, sa)] with
  | true => exact texts_great na sa st ha hgr w
  | false =>
    have h60 : sa.size ≤ 60 := gr_false hgr (na, sa) (by simp)
    have P1 := fun W => Print_any na sa W (by omega)
    have P2 := fun W => rPrint_any na sa W (by omega)
    by_cases h1 : 65536 < st.size
    · exact texts_over _ _ _ _ st ha hgr _ _ (decide_eq_true (by omega)) (decide_eq_false (by omega)) w (fun W => Parse_long st W hs9 h1) (fun W => rParse_long st W hs9 h1) P1 P2
    · by_cases h2 : 200 < st.size
      · exact texts_long na sa st ha hgr (decide_eq_true (by omega)) (decide_eq_true (by omega)) w
      · cases hg : goodT st.data.toList with
        | true => exact texts_short _ _ _ _ st ha hgr _ _ (decide_eq_false (by omega)) w (fun W => Parse_good st W (by omega) hg) (fun W => rParse_good st W (by omega) hg) P1 P2
        | false => exact texts_short _ _ _ _ st ha hgr _ _ (decide_eq_false (by omega)) w (fun W => Parse_bad st W (by omega) hg) (fun W => rParse_badT st W (by omega) hg) P1 P2

end Go.Proofs.Gv
