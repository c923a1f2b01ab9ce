/- grooveref07.Reverse. -/
import Derived.Test.YtlaakomeofldgaaRefs07
namespace Go.Proofs.Gv
open Go Go.RowKit

theorem Try.info5r : (Try.prog.info? 5).map (fun i => (i.zero, i.size, i.bytes)) = some (some (.int .u8 0), 1, 1) := by kernel_rfl

/-- Letters as values. -/
def u8L (l : List UInt8) : List Value := l.map u8V
theorem conv_row {W : World} {B : Nat} {v : Value} {l : List UInt8} (h : W.ownsRow B 5 1 v l.length (u8L l)) :
    (Go.convert 63 9 v).run Try.prog W = .ok (.string ⟨l.toArray⟩) W := by
  rcases h.2 with ⟨rfl, hn⟩ | ⟨g, cap, cur, rfl, hB, hg, hn, hm, hs, ht⟩
  · have : l = [] := List.eq_nil_of_length_eq_zero hn
    subst this
    exact run_convert_bytes_nil (P := Try.prog) W 63 5 Try.underlying63 Try.underlying5 0 0 9 Try.underlying9
  · refine run_convert_bytes_back (P := Try.prog) W 63 9 5 ⟨g, 0, none⟩ cap l Try.underlying63 Try.underlying5 Try.underlying9 (fun j hj => ?_)
    have e : (⟨g, 0, none⟩ : Addr).add j = ⟨g, j, none⟩ := by unfold Addr.add; split <;> simp_all
    have h1 : cur[j]? = some (.int .u8 (l[j].toNat : Int)) := by
      have h2 : (cur.toList.take (l.length * 1))[j]? = some (.int .u8 (l[j].toNat : Int)) := by
        rw [ht]; unfold u8L; simp [hj, u8V]
      rw [List.getElem?_take, if_pos (by omega)] at h2
      simpa using h2
    rw [e]
    simp [World.cell?, hg, h1]

theorem u8L_snoc (l : List UInt8) (c : UInt8) : u8L (l ++ [c]) = u8L l ++ [.int .u8 c.toNat] := by simp [u8L, u8V]

end Go.Proofs.Gv
