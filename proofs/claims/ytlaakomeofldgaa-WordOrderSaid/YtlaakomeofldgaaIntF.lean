/- integer.Check. -/
import Derived.Test.YtlaakomeofldgaaIntB
import Derived.Test.YtlaakomeofldgaaIntKit
import Derived.Deep.RegionHeld3
import Derived.Test.YtlaakomeofldgaaIntVP
namespace Go.Proofs.Gv
open Go Go.RowKit

/-- Sign and bytes are those of a canonical integer. -/
def Canon (na : Bool) (sa : ByteArray) : Prop := sg na (bv sa.data.toList) = na ∧ mg (bv sa.data.toList) = sa

set_option maxHeartbeats 800000 in
theorem Check_any (na : Bool) (sa : ByteArray) (w : World) (ha : sa.size ≤ 30000000) :
    Calls Try.prog 67 #[.agg #[.bool na, .string sa]] w fun e w' => (∃ r : Int, e = .returned (.int .i64 r) ∧ (Canon na sa → r = 0) ∧ (¬ Canon na sa → r = 1)) ∧ Below w.heap.size w w' := by
  have L1 := nlen_bv (s := sa)
  go_enter Try.func67, Try.ntmps67
  go_wp2
  obtain ⟨W, hW⟩ : ∃ W, w.alloc (.cells #[.bool na, .string sa] 49) = W := ⟨_, rfl⟩
  have HO := Lib.hid (Own.one w (.cells #[.bool na, .string sa] 49))
  rw [hW] at HO ⊢
  clear hW
  obtain ⟨a0, a1, a2, a3, a4⟩ := HO.out.blk 0 w.heap.size rfl rfl
  go_region_held3 (fun w' => w'.cell? ⟨w.heap.size, 0, none⟩ = some (.bool na) ∧ w'.cell? ⟨w.heap.size, 1, none⟩ = some (.string sa)) (go_keep) (first
    | (go_at_call 74; refine (digits_any na sa _ (by omega)).mono ?_; rintro e w1 ⟨A, c, rfl, hn, hb⟩; have HO1 := Lib.hid (HO.out.next hb); obtain ⟨k0, k1, k2, k3, k4⟩ := HO1.out.blk 0 w.heap.size rfl rfl; have Hn := Lib.hid hn; clear hb hn)
    | (go_at_call 75; refine (number_nt _ A c _ _ (by exact Hn.out.same) (by have := nlen_bv (s := sa); omega)).mono ?_; rintro e w2 ⟨rfl, hb2⟩; have HO2 := Lib.hid (HO1.out.next hb2); obtain ⟨m0, m1, m2, m3, m4⟩ := HO2.out.blk 0 w.heap.size rfl rfl; clear hb2))
  by_cases hc : Canon na sa
  · rw [eqI_iff.mpr hc]
    go_wp2
    refine bodyPost_ret (v := .int .i64 0) (by simp [results, Try.results67, go_sem]) rfl ?_
    exact ⟨⟨0, rfl, fun _ => rfl, fun h => absurd hc h⟩, HO2.out.below⟩
  · have t : eqI (sg na (bv sa.data.toList)) (mg (bv sa.data.toList)) na sa = false := by
      rw [Bool.eq_false_iff]; exact fun h => hc (eqI_iff.mp h)
    rw [t]
    go_wp2
    refine bodyPost_ret (v := .int .i64 1) (by simp [results, Try.results67, go_sem]) rfl ?_
    exact ⟨⟨1, rfl, fun h => absurd h hc, fun _ => rfl⟩, HO2.out.below⟩
end Go.Proofs.Gv
