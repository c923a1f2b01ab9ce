/- integer.Neg. -/
import Derived.Test.YtpnhccpfbeidlaaDoorIntKit
import Derived.Deep.RegionHeld3
namespace Go.Proofs.Gv
open Go Go.RowKit

set_option maxHeartbeats 800000 in
theorem Neg_any (na : Bool) (sa : ByteArray) (w : World) (ha : sa.size ≤ 30000000) :
    Calls Tryd.prog 53 #[.agg #[.bool na, .string sa]] w (RetI w (-iv na sa)) := by
  go_enter Tryd.func53, Tryd.ntmps53
  go_wp2
  obtain ⟨W, hW⟩ : ∃ W, (w.alloc (.cells #[.bool na, .string sa] 23)).alloc (.cells #[.bool false, .string ⟨#[]⟩] 23) = W := ⟨_, rfl⟩
  have HO := Lib.hid (Own.two w (.cells #[.bool na, .string sa] 23) (.cells #[.bool false, .string ⟨#[]⟩] 23))
  rw [hW] at HO ⊢
  clear hW
  obtain ⟨a0, a1, a2, a3, a4⟩ := HO.out.blk 0 w.heap.size rfl rfl
  obtain ⟨b0, b1, b2, b3, b4⟩ := HO.out.blk 1 (w.heap.size + 1) rfl rfl
  go_region_held3 (fun w' => w'.cell? ⟨w.heap.size, 0, none⟩ = some (.bool na) ∧ w'.cell? ⟨w.heap.size, 1, none⟩ = some (.string sa)) (go_keep) (first
    | (go_at_call 28; refine (digits_any na sa _ (by omega)).mono ?_; rintro e w1 ⟨A, c, rfl, hn, hb⟩; have HO1 := Lib.hid (HO.out.next hb); obtain ⟨k0, k1, k2, k3, k4⟩ := HO1.out.blk 0 w.heap.size rfl rfl; obtain ⟨l0, l1, l2, l3, l4⟩ := HO1.out.blk 1 (w.heap.size + 1) rfl rfl; clear hb)
    | (go_at_call 26; refine (number_nt _ A c _ _ (by assumption) (by have := nlen_bv (s := sa); omega)).mono ?_; rintro e w2 ⟨rfl, hb2⟩; have HO2 := Lib.hid (HO1.out.next hb2); obtain ⟨m0, m1, m2, m3, m4⟩ := HO2.out.blk 0 w.heap.size rfl rfl; obtain ⟨j0, j1, j2, j3, j4⟩ := HO2.out.blk 1 (w.heap.size + 1) rfl rfl; clear hb2))
  go_wp2
  refine bodyPost_ret (v := .agg #[.bool (sg (!na) (bv sa.data.toList)), .string (mg (bv sa.data.toList))]) (by simp [results, Tryd.results53, go_sem, j0, j1]) rfl ?_
  refine RetInt.toI ⟨rfl, ?_⟩ (by unfold iv; cases na <;> simp)
  exact HO2.out.stored (w.heap.size + 1) (by omega) _ _
end Go.Proofs.Gv
