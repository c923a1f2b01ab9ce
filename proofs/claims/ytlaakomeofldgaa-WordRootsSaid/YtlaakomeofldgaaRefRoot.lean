/- grooveref07.Root. -/
import Derived.Test.YtlaakomeofldgaaPd
namespace Go.Proofs.Gv
open Go Go.RowKit

set_option maxRecDepth 100000 in
set_option maxHeartbeats 1600000 in
theorem refRoot_any (s : ByteArray) (w : World) (hs : s.size ≤ 100000) :
    Calls Try.prog 17 #[.string s] w (RetRoot s w) := by
  go_enter Try.func17, Try.ntmps17
  go_wp2
  go_loopg [4] (s.size + 1) (fun g i wr => ∃ n : Nat, 1 ≤ n ∧ i = .int .i64 n ∧ (∀ k, 1 ≤ k → k < n → ¬ (k ∣ s.size ∧ Pd (at' s) s.size k)) ∧ s.size + 1 - n ≤ g ∧ n ≤ s.size + 1 ∧ Dr w wr)
  case atStart => exact ⟨1, Nat.le_refl _, rfl, fun k h1 h2 => by omega, by omega, by omega, Dr.refl w⟩
  case round =>
    obtain ⟨n, hn1, rfl, hno, hg, hns, hd⟩ := hrel
    have HNO := Lib.hid hno
    have HD := Lib.hid hd
    clear hno hd
    by_cases hle : n ≤ s.size
    · have hnn : (0 : Int) < n := by omega
      by_cases hdv : s.size % n = 0
      · have hdv' : ((s.size : Int) % (n : Nat) != 0) = false := by
          have : ((s.size % n : Nat) : Int) = 0 := by rw [hdv]; rfl
          rw [Int.natCast_emod] at this
          rw [this]; rfl
        have HDV := Lib.hid hdv
        clear hdv
        go_wp2
        obtain ⟨wo, hwo⟩ : ∃ wo : World, wo = wr := ⟨_, rfl⟩
        rw [← hwo] at HD ⊢
        clear hwo
        go_loopg [5, 6] (s.size + 1) (fun g sb si wr => ∃ (d : Nat) (b : Bool), sb = .bool b ∧ si = .int .i64 ((n : Int) + d) ∧ (b = true ↔ ∀ j, j < d → at' s j = at' s (j + n)) ∧ n + d ≤ s.size ∧ s.size + 1 - (n + d) ≤ g ∧ Dr w wr)
        case atStart => exact ⟨0, true, rfl, by simp, by simp, by omega, by omega, HD.out⟩
        case round =>
          obtain ⟨d, b, rfl, rfl, hb, hnd, hg2, hd2⟩ := hrel
          have HB := Lib.hid hb
          have HD2 := Lib.hid hd2
          clear hb hd2
          by_cases hlt : n + d < s.size
          · have hx1 : (s[n + d]'(by omega)) = at' s (n + d) := at'_eq (by omega)
            have hx2 : (s[d]'(by omega)) = at' s d := at'_eq (by omega)
            have i1 : (0 : Int) ≤ (n : Int) + d := by omega
            have i2 : (n : Int) + d < s.size := by omega
            have i3 : ((n : Int) + d).toNat = n + d := by omega
            have i5 : (0 : Int) ≤ d := by omega
            have i6 : (d : Int) < s.size := by omega
            have i4 : IntKind.i64.wrap ((n : Int) + d - n) = d := by rw [IntKind.wrap_i64]; omega
            by_cases he : at' s (n + d) = at' s d
            · have e1 : (((at' s (n + d)).toNat : Int) != (at' s d).toNat) = false := by rw [he]; simp
              have HE := Lib.hid he
              clear he
              go_wp2
              go_quiet (fail)
              go_wp2
              go_roundg (s.size - (n + d))
              case rel => exact ⟨d + 1, b, rfl, by congr 1, by
                rw [HB.out]
                constructor
                · intro h j hj
                  rcases Nat.lt_or_ge j d with h1 | h1
                  · exact h j h1
                  · obtain rfl : j = d := by omega
                    rw [← HE.out, Nat.add_comm]
                · intro h j hj; exact h j (by omega), by omega, by omega, HD2.out.more _⟩
              case measure => omega
            · have hne : ¬ ((at' s (n + d)).toNat : Int) = (at' s d).toNat := by
                intro e; exact he (UInt8.toNat_inj.mp (by omega))
              have e1 : (((at' s (n + d)).toNat : Int) != (at' s d).toNat) = true := by simpa using hne
              have HE := Lib.hid he
              clear he hne
              go_wp2
              go_quiet (fail)
              go_wp2
              go_roundg (s.size - (n + d))
              case rel => exact ⟨d + 1, false, rfl, by congr 1, by
                constructor
                · intro h; cases h
                · intro h
                  have := h d (by omega)
                  exact (HE.out (by rw [this, Nat.add_comm])).elim, by omega, by omega, HD2.out.more _⟩
              case measure => omega
          · have hpd : (b = true ↔ Pd (at' s) s.size n) := by
              rw [HB.out]
              constructor
              · intro h i hi; exact h i (by omega)
              · intro h j hj; exact h j (by omega)
            have HPD := Lib.hid hpd
            clear hpd
            cases b
            · go_wp2
              go_roundg (s.size - n)
              case rel => exact ⟨n + 1, by omega, by go_num, fun k h1 h2 => (by
                rcases Nat.lt_or_ge k n with h | h
                · exact HNO.out k h1 h
                · obtain rfl : k = n := by omega
                  intro h3
                  have := HPD.out.mpr h3.2
                  cases this), by omega, by omega, HD2.out⟩
              case measure => omega
            · have HR := Lib.hid (rl_eq s hn1 (Nat.dvd_of_mod_eq_zero HDV.out) (HPD.out.mp rfl) (by omega) HNO.out)
              have hnz : ((n : Int)) ≠ 0 := by omega
              have i8 : (n : Int) ≤ s.size := by omega
              go_wp2
              go_quiet (fail)
              go_wp2
              go_ret2
              obtain ⟨q, hq⟩ := HD2.out
              refine ⟨?_, ?_⟩
              · rw [HR.out, ← wrap_div (by omega)]; rfl
              · subst hq; exact below_drewN (below_drewN (Below.refl _ _) _) _
      · have hdv' : ((s.size : Int) % (n : Nat) != 0) = true := by
          rw [bne_iff_ne]; intro h
          rw [← Int.natCast_emod] at h; exact hdv (by omega)
        have HDV := Lib.hid hdv
        clear hdv
        go_wp2
        go_roundg (s.size - n)
        case rel => exact ⟨n + 1, by omega, by go_num, fun k h1 h2 => (by
          rcases Nat.lt_or_ge k n with h | h
          · exact HNO.out k h1 h
          · obtain rfl : k = n := by omega
            exact fun h => HDV.out (Nat.mod_eq_zero_of_dvd h.1)), by omega, by omega, HD.out⟩
        case measure => omega
    · go_wp2
      go_ret2
      obtain ⟨q, hq⟩ := HD.out
      have h0 : s.size = 0 := by
        rcases Nat.eq_zero_or_pos s.size with h | h
        · exact h
        · exact (HNO.out _ (rl_pos s h) (by have := rl_le s; omega) ⟨rl_dvd_size s, rl_Pd s h⟩).elim
      have h1 : rl s = 0 := by have := rl_le s; omega
      refine ⟨?_, by subst hq; exact below_drewN (Below.refl _ _) _⟩
      rw [h1]
      have h2 : s.extract 0 0 = ⟨#[]⟩ := by rw [ByteArray.ext_iff, ByteArray.data_extract]; simp
      rw [h2, Nat.div_zero]; rfl
end Go.Proofs.Gv
