/- WordOrder: plain laws; slices.IsSorted at strings. -/
import Derived.Test.YtlaakomeofldgaaLNext
import Derived.Test.YtlaakomeofldgaaAll
namespace Go.Proofs.Gv
open Go Go.RowKit

theorem unS_chk {q n A : Nat} (h1 : 1 ≤ q) (h2 : q ≤ 16) (hn : n ≤ 65536) : chk q (unS q n A) = 0 :=
  chk_of h1 h2 (by rw [unS_size]; exact hn) (by rw [unS_size]; exact unS_Wd h1 h2)
theorem ord_step {q n i : Nat} (h1 : 1 ≤ q) (h2 : q ≤ 16) (hn : n ≤ 24) (hi : i + 1 < q ^ n) :
    nextS q (unS q n i) = (unS q n (i + 1), 0) ∧ Op.bytesLess (unS q n (i + 1)).data.toList (unS q n i).data.toList = false := by
  have hr : rn q (unS q n i) n = i := rn_unS h1 h2 (by omega)
  have hs : (unS q n i).size = n := unS_size q n i
  rcases next_law h2 (by rw [hs]; exact hn) (unS_chk (A := i) h1 h2 (by omega)) with ⟨t, e1, e2, e3, _, e5, _, _, e8, _⟩ | ⟨_, _, _, _, _, _, _, _, e8⟩
  · rw [hs] at e2 e5
    rw [hr] at e5
    have hw : Wd q t t.size := Wd.of (by have := (chk_ok e3).2.2.2; simpa using this)
    have h3 := rk_rn _ hw
    rw [e5] at h3
    have h4 : rn q t t.size = i + 1 := by omega
    have h5 := unS_rn hw
    rw [h4, e2] at h5
    rw [e1, h5]
    exact ⟨rfl, e8⟩
  · rw [hs, hr] at e8
    exact absurd hi e8
theorem ord_last {q n i : Nat} (h1 : 1 ≤ q) (h2 : q ≤ 16) (hn : n ≤ 24) (hi : i + 1 = q ^ n) : nextS q (unS q n i) = (⟨(List.replicate (n + 1) 48).toArray⟩, 0) := by
  have hr : rn q (unS q n i) n = i := rn_unS h1 h2 (by omega)
  have hs : (unS q n i).size = n := unS_size q n i
  rcases next_num (s := unS q n i) h2 (by rw [hs]; omega) (unS_chk (A := i) h1 h2 (by omega)) with ⟨t, _, _, _, _, e⟩ | ⟨e, _⟩
  · rw [hs, hr] at e; omega
  · rw [e, hs]
theorem rank_unS {q n i : Nat} (h1 : 1 ≤ q) (h2 : q ≤ 16) (hn : n ≤ 24) (hi : i < q ^ n) (W : World) :
    Calls Try.prog 40 #[.int .i64 q, .string (unS q n i)] W fun e w' => e = .returned (.tuple #[.agg #[.bool false, .string (mg i)], .int .i64 0]) ∧ Below W.heap.size W w' := by
  have hw : Wd q (unS q n i) (unS q n i).size := by rw [unS_size]; exact unS_Wd h1 h2
  refine rankB (unS_chk h1 h2 (by omega)) ?_ (by rw [unS_size]; omega) W
  rw [rk_rn _ hw, unS_size, rn_unS h1 h2 hi]

set_option maxHeartbeats 1600000 in
theorem isNaN_str (x : ByteArray) (w : World) : Calls Try.prog 102 #[.string x] w fun e w' => e = .returned (.bool false) ∧ w' = w := by
  have te : (x.toList == x.toList) = true := by simp
  go_enter Try.func102, Try.ntmps102
  go_wp2
  go_ret
  exact ⟨by simp, rfl⟩
set_option maxHeartbeats 1600000 in
theorem less_str (x y : ByteArray) (h : Op.bytesLess x.toList y.toList = false) (w : World) : Calls Try.prog 79 #[.string x, .string y] w fun e w' => e = .returned (.bool false) ∧ w' = w := by
  go_enter Try.func79, Try.ntmps79
  go_wp2_with (go_at_call 102; refine (isNaN_str x _).mono ?_; rintro e w1 ⟨rfl, rfl⟩)
  go_ret
  exact ⟨rfl, rfl⟩
set_option maxRecDepth 100000 in
set_option maxHeartbeats 1600000 in
theorem sorted_words {W : World} {g N c : Nat} {f : Nat → ByteArray} (h : SRow W g N f) (hl : N ≤ 1000000000) (ha : ∀ j, j + 1 < N → Op.bytesLess (f (j + 1)).toList (f j).toList = false) :
    Calls Try.prog 46 #[.slice (some ⟨g, 0, none⟩) N c] W fun e w' => e = .returned (.bool true) ∧ Dr W w' := by
  have HA := Lib.hid h
  have HS := Lib.hid ha
  clear h ha
  go_enter Try.func46, Try.ntmps46
  go_wp2
  go_loopg [3] (N + 1) (fun g i wr => ∃ z : Int, i = .int .i64 z ∧ -1 ≤ z ∧ z < N ∧ (z + 1).toNat ≤ g ∧ Dr W wr)
  case atStart => exact ⟨_, rfl, by omega, by omega, by omega, Dr.refl W⟩
  case round =>
    obtain ⟨z, rfl, h1, h2, hg, hd⟩ := hrel
    by_cases hz : 0 < z
    · obtain ⟨k, hk⟩ : ∃ k : Nat, z = (k : Int) + 1 := ⟨(z - 1).toNat, by omega⟩
      subst hk
      have c0 : wr.cell? ⟨g, k, none⟩ = some (.string (f k)) := by obtain ⟨q, rfl⟩ := hd; exact HA.out.cell k (by omega)
      have c1 : wr.cell? ⟨g, k + 1, none⟩ = some (.string (f (k + 1))) := by obtain ⟨q, rfl⟩ := hd; exact HA.out.cell (k + 1) (by omega)
      have HD := Lib.hid hd
      clear hd
      have hlt := HS.out k (by omega)
      obtain ⟨x, hx⟩ : ∃ x, f k = x := ⟨_, rfl⟩
      obtain ⟨y, hy⟩ : ∃ y, f (k + 1) = y := ⟨_, rfl⟩
      rw [hx] at c0 hlt
      rw [hy] at c1 hlt
      clear hx hy
      have HL := Lib.hid (fun V => less_str y x hlt V)
      have i1 : (k : Int) + 1 < N := by omega
      have i0 : (0 : Int) ≤ (k : Int) + 1 := by omega
      have i2 : ((k : Int) + 1).toNat = k + 1 := by omega
      have i3 : IntKind.i64.wrap ((k : Int) + 1 - 1) = k := by rw [IntKind.wrap_i64]; omega
      have i4 : (0 : Int) ≤ k := by omega
      have i5 : (k : Int) < N := by omega
      clear hlt
      go_wp2
      go_quiet ((go_at_call 79; exact Calls.quiet_of_same (HL.out _)))
      go_wp2
      go_roundg (k + 1)
      case rel => exact ⟨k, by congr 1, by omega, by omega, by omega, HD.out.more _⟩
      case measure => omega
    · go_wp2
      go_ret
      exact ⟨rfl, hd⟩
end Go.Proofs.Gv
