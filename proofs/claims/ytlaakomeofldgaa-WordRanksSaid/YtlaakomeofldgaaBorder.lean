/- word.Border. -/
import Derived.Test.YtlaakomeofldgaaOccP
import Derived.Test.YtlaakomeofldgaaIntKit
import Derived.Test.YtlaakomeofldgaaStr
import Derived.Deep.RegionHeld3
namespace Go.Proofs.Gv
open Go Go.RowKit

set_option maxHeartbeats 800000 in
/-- The closure: the next number of the table. -/
theorem fall_any (s : ByteArray) (bw bt A n c : Nat) (T : Nat → Int) (i k : Nat) (w : World) (hs : s.size ≤ 1000000) (hi : i < s.size) (hF : Fall (at' s) i k)
    (hw : w.cell? ⟨bw, 0, none⟩ = some (.string s)) (ht : w.cell? ⟨bt, 0, none⟩ = some (.slice (some ⟨A, 0, none⟩) n c)) (hn : i < n) (hnc : n ≤ c) (hc : c ≤ 1000001)
    (hT : ∀ j : Nat, 0 < j → j ≤ i → w.cell? ⟨A, j, none⟩ = some (.int .i64 (mb (at' s) j : Nat))) :
    Calls Try.prog 47 #[.int .i64 k, .int .u8 (at' s i).toNat, .pointer (some ⟨bw, 0, none⟩), .pointer (some ⟨bt, 0, none⟩)] w fun e w' => e = .returned (.int .i64 (mb (at' s) (i + 1) : Nat)) ∧ w' = w := by
  have HT := Lib.hid hT
  clear hT
  go_enter Try.func47, Try.ntmps47
  go_wp2
  go_loopg [0] k (fun g p wr => ∃ k : Nat, p = .int .i64 k ∧ k ≤ g ∧ Fall (at' s) i k ∧ wr = w)
  case atStart => exact ⟨k, rfl, Nat.le_refl _, hF, rfl⟩
  case round =>
    obtain ⟨k', rfl, hg, hk, rfl⟩ := hrel
    have hlt := hk.le
    have hsz : (k' : Int) < s.size := by omega
    have hx : (s[k']'(by omega)) = at' s k' := at'_eq (by omega)
    by_cases hc : at' s k' = at' s i
    · have e1 : (((at' s k').toNat : Int) != (at' s i).toNat) = false := by simp [hc]
      have e2 : (((at' s k').toNat : Int) == (at' s i).toNat) = true := by simp [hc]
      have hr := hk.hit hc
      by_cases h0 : (k' : Int) > 0
      · go_wp2
        go_ret
        refine ⟨?_, rfl⟩
        first | rfl | (rw [hr]; rfl) | (simp [hr]; done)
      · go_wp2
        go_ret
        refine ⟨?_, rfl⟩
        first | rfl | (rw [hr]; rfl) | (simp [hr]; done)
    · have hne : ¬ ((at' s k').toNat : Int) = (at' s i).toNat := by
        intro e; exact hc (UInt8.toNat_inj.mp (by omega))
      have e1 : (((at' s k').toNat : Int) != (at' s i).toNat) = true := by simpa using hne
      have e2 : (((at' s k').toNat : Int) == (at' s i).toNat) = false := by simpa using hne
      by_cases h0 : (k' : Int) > 0
      · have hb : wr.cell? ⟨A, k', none⟩ = some (.int .i64 (mb (at' s) k' : Nat)) := HT.out k' (by omega) (by omega)
        have hlt2 := mb_lt (at' s) (i := k') (by omega)
        have hnx := hk.next (by omega) hc
        go_wp2
        go_roundg (mb (at' s) k')
        case measure => omega
        case rel => exact ⟨mb (at' s) k', rfl, Nat.le_refl _, hnx, rfl⟩
      · obtain rfl : k' = 0 := by omega
        have hr := hk.miss hc
        go_wp2
        go_ret
        refine ⟨?_, rfl⟩
        first | rfl | (rw [hr]; rfl) | (simp [hr]; done)

theorem Try.info3z : (Try.prog.info? 3).map (fun i => (i.zero, i.size, i.bytes)) = some (some (.int .i64 0), 1, 8) := by kernel_rfl
theorem mk_ints (N : Int) (n : Nat) (e : N = n) (h : n ≤ 1000000000) (w : World) :
    (Instr.makeSlice 29 (.int .i64 N) (.int .i64 N)).run Try.prog w = .ok (.slice (some ⟨w.heap.size, 0, none⟩) n n) (w.alloc (.cells (madeCells #[.int .i64 0] n) 3)) := by
  subst e
  exact run_make_row' (P := Try.prog) 29 3 (.int .i64 0) 8 Try.underlying29 Try.info3z rfl .i64 .i64 n (by omega) (by omega) w

/-- The table when the numbers below i stand in it. -/
noncomputable def tab (s : ByteArray) (i j : Nat) : Value := .int .i64 (if j < i then (mb (at' s) j : Nat) else 0 : Nat)
theorem tab_one (s : ByteArray) (j : Nat) : tab s 2 j = .int .i64 0 := by
  unfold tab
  rcases j with _ | _ | j
  · rw [if_pos (by omega), mb_zero]; rfl
  · rw [if_pos (by omega), mb_one]; rfl
  · rw [if_neg (by omega)]; rfl

set_option maxHeartbeats 800000 in
theorem Border_any (s : ByteArray) (w : World) (hs : s.size ≤ 100000) :
    Calls Try.prog 13 #[.string s] w fun e w' => e = .returned (.int .i64 (mb (at' s) s.size : Nat)) ∧ Below w.heap.size w w' := by
  have hmk := mk_ints ((s.size : Int) + 1) (s.size + 1) (by omega) (by omega)
  go_enter Try.func13, Try.ntmps13
  go_wp2
  clear hmk
  obtain ⟨W0, hW0⟩ : ∃ W0, ((w.alloc (.cells #[.string s] 9)).alloc (.cells (madeCells #[.int .i64 0] (s.size + 1)) 3)).alloc (.cells #[.slice (some ⟨w.heap.size + 1, 0, none⟩) (s.size + 1) (s.size + 1)] 29) = W0 := ⟨_, rfl⟩
  have hO := Own.three w (.cells #[.string s] 9) (.cells (madeCells #[.int .i64 0] (s.size + 1)) 3) (.cells #[.slice (some ⟨w.heap.size + 1, 0, none⟩) (s.size + 1) (s.size + 1)] 29)
  have hrow0 : W0.rowIs (w.heap.size + 1) 3 (s.size + 1) (fun _ => .int .i64 0) := by
    have h1 : ((w.alloc (.cells #[.string s] 9)).alloc (.cells (madeCells #[.int .i64 0] (s.size + 1)) 3)).rowIs (w.alloc (.cells #[.string s] 9)).heap.size 3 (s.size + 1) (fun _ => .int .i64 0) := World.rowIs_made _ _ _ _
    rw [World.size_alloc] at h1
    rw [← hW0]; exact h1.alloc _
  rw [hW0] at hO ⊢
  obtain ⟨a0, _, _⟩ := hO.blk1 0 w.heap.size rfl rfl
  obtain ⟨c0, _, _⟩ := hO.blk1 2 (w.heap.size + 1 + 1) rfl rfl
  have hb0 := hO.below
  clear hW0 hO
  go_loopw [5] (fun i wr => ∃ k : Nat, 1 ≤ k ∧ i = .int .i64 k ∧ (k ≤ s.size ∨ k = 1) ∧ wr.rowIs (w.heap.size + 1) 3 (s.size + 1) (tab s (k + 1)) ∧ wr.cell? ⟨w.heap.size, 0, none⟩ = some (.string s) ∧ wr.cell? ⟨w.heap.size + 1 + 1, 0, none⟩ = some (.slice (some ⟨w.heap.size + 1, 0, none⟩) (s.size + 1) (s.size + 1)) ∧ Below w.heap.size w wr)
    (fun i _ => s.size - (intOf i).toNat)
  case atStart => exact ⟨1, Nat.le_refl _, rfl, .inr rfl, hrow0.congr (fun j _ => (tab_one s j).symm), a0, c0, hb0⟩
  case round =>
    obtain ⟨k, h1, rfl, hk, hrow, hc1, hc2, hb⟩ := hrel
    by_cases hlt : k < s.size
    · have hT : ∀ j : Nat, 0 < j → j ≤ k → wr.cell? ⟨w.heap.size + 1, j, none⟩ = some (.int .i64 (mb (at' s) j : Nat)) := fun j _ hj => by
        rw [hrow.cell (i := j) (by omega)]; unfold tab; rw [if_pos (by omega)]
      have HT := Lib.hid hT
      have hck : wr.cell? ⟨w.heap.size + 1, k, none⟩ = some (.int .i64 (mb (at' s) k : Nat)) := hT k (by omega) (Nat.le_refl _)
      have hfr := hrow.frozen (k + 1)
      have hck1 : wr.cell? ⟨w.heap.size + 1, k + 1, none⟩ = some (.int .i64 0) := by
        rw [hrow.cell (i := k + 1) (by omega)]; unfold tab; rw [if_neg (by omega)]; rfl
      have hx : (s[k]'(by omega)) = at' s k := at'_eq (by omega)
      have HF := Lib.hid (Fall.start (at' s) (i := k) (by omega))
      have HR := Lib.hid hrow
      have HB := Lib.hid hb
      clear hT hk hrow hb hrow0 a0 c0 hb0
      go_wp2
      have hi0 : k < s.size + 1 := by omega
      have hi1 : (k : Int) < (s.size : Int) + 1 := by omega
      have hi2 : (k : Int) + 1 < (s.size : Int) + 1 := by omega
      have hi3 : (0 : Int) ≤ (k : Int) + 1 := by omega
      have hi6 : ((k : Int) + 1).toNat = k + 1 := by omega
      have hi7 : ¬ ((k : Int) + 1 < 0) := by omega
      have hi4 : (k : Int) < (s.size : Int) := by omega
      have hwr : IntKind.i64.wrap ((k : Int) + 1) = (k : Int) + 1 := by rw [IntKind.wrap_i64]; omega
      have hi5 : (k : Int) + 1 ≤ (s.size : Int) := by omega
      have ne1 : ¬ k = k + 1 := by omega
      go_region_held3 (fun w' => w'.cell? ⟨w.heap.size, 0, none⟩ = some (.string s) ∧ w'.cell? ⟨w.heap.size + 1 + 1, 0, none⟩ = some (.slice (some ⟨w.heap.size + 1, 0, none⟩) (s.size + 1) (s.size + 1)) ∧ w'.cell? ⟨w.heap.size + 1, k, none⟩ = some (.int .i64 (mb (at' s) k : Nat)) ∧ w'.frozen? ⟨w.heap.size + 1, k + 1, none⟩ = false) (first | (go_keep; done) | (refine ⟨?_, ?_, ?_, ?_⟩ <;> first | (go_keep; done) | exact (World.cell?_setCell_other wr _ _ _ (fun e => by have h := congrArg Addr.off e; simp at h)).trans hck)) (first
        | (go_at_call 47; refine (fall_any s _ _ (w.heap.size + 1) (s.size + 1) (s.size + 1) (fun _ => 0) k (mb (at' s) k) _ (by omega) hlt HF.out (by exact hc1) (by exact hc2) (by omega) (by omega) (by omega) (by exact HT.out)).mono ?_; rintro e w' ⟨rfl, rfl⟩))
      all_goals go_wp2
      all_goals (
        go_roundw
        case rel => exact ⟨k + 1, by omega, by go_num, .inl (by omega), ((HR.out.set (k + 1) _).congr (fun j _ => by
            unfold tab
            by_cases e : j = k + 1
            · subst e; simp
            · by_cases e2 : j < k + 1
              · rw [if_neg e, if_pos e2, if_pos (by omega)]
              · rw [if_neg e, if_neg e2, if_neg (by omega)])).drew, (World.cell?_setCell_other wr _ _ _ (fun e => by have h := congrArg Addr.block e; simp at h)).trans hc1, (World.cell?_setCell_other wr _ _ _ (fun e => by have h := congrArg Addr.block e; simp at h)).trans hc2, (HB.out.setCell (p := ⟨w.heap.size + 1, k + 1, none⟩) (by show w.heap.size ≤ w.heap.size + 1; omega) _).drew⟩
        case measure => simp [intOf]; omega)
    · have hck : wr.cell? ⟨w.heap.size + 1, s.size, none⟩ = some (.int .i64 (mb (at' s) s.size : Nat)) := by
        rw [hrow.cell (i := s.size) (by omega)]; unfold tab; rw [if_pos (by omega)]
      clear hrow0
      go_wp2
      go_ret
      exact ⟨rfl, hb⟩
end Go.Proofs.Gv
