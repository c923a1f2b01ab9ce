/- The law WordReversed, walked. -/
import Derived.Test.YtlaakomeofldgaaRev
namespace Go.Proofs.Gv
open Go Go.RowKit

theorem IntsAt.cellAt {W : World} {B n : Nat} {l : List Nat} {va : Option Addr} {vc : Nat} (h : IntsAt W B (.slice va n vc) l) {k : Nat} (hk : k < l.length) : ∃ g, va = some ⟨g, 0, none⟩ ∧ W.cell? ⟨g, k, none⟩ = some (.int .i64 (l.getD k 0 : Nat)) := by
  rcases h.at0 with h0 | ⟨g, c', e, _, _, _, a4, _⟩
  · subst h0; simp at hk
  · injection e with e1 _ _
    exact ⟨g, e1, a4 k hk⟩

set_option maxRecDepth 100000 in
set_option maxHeartbeats 1600000 in
theorem law_reversed (s u : ByteArray) (m : Int) (w : World) (hs : s.size ≤ maxLen) (hu : u.size ≤ maxLen) (hm : w.cell? ⟨0, 0, none⟩ = some (.int .i64 m)) (h₀ : 0 < w.heap.size) :
    Calls Try.prog 5 #[.string s, .string u] w fun e w' => e = .returned (.bool true) ∧ Below w.heap.size w w' := by
  unfold maxLen at hs hu
  have HM := Lib.hid hm
  clear hm
  by_cases h1 : 40 < s.size
  · go_enter Try.func5, Try.ntmps5
    go_wp2_with (go_at_call 12; refine (awake07 m _ HM.out h₀).mono ?_; rintro e w' ⟨rfl, hb⟩)
    go_ret
    exact ⟨rfl, hb⟩
  · by_cases h2 : 40 < u.size
    · go_enter Try.func5, Try.ntmps5
      go_wp2_with (go_at_call 12; refine (awake07 m _ HM.out h₀).mono ?_; rintro e w' ⟨rfl, hb⟩)
      go_ret
      exact ⟨rfl, hb⟩
    · have hsu : (s ++ u).size = s.size + u.size := ByteArray.size_append
      have r1 := rv_size s
      have r2 := rv_size u
      have HRs := Lib.hid (fun W => Reverse_any s W (by omega))
      have HRu := Lib.hid (fun W => Reverse_any u W (by omega))
      have HRv := Lib.hid (fun W => (Reverse_any (rv s) W (by omega)).mono fun e w' h => ⟨by rw [h.1]; show Ending.returned (.string (rv (rv s))) = .returned (.string s); rw [rv_rv], h.2⟩ : ∀ W, Calls Try.prog 23 #[.string (rv s)] W fun e w' => e = .returned (.string s) ∧ Below W.heap.size W w')
      have HRa := Lib.hid (fun W => (Reverse_any (s ++ u) W (by omega)).mono fun e w' h => ⟨by rw [h.1]; show Ending.returned (.string (rv (s ++ u))) = .returned (.string (rv u ++ rv s)); rw [rv_append], h.2⟩ : ∀ W, Calls Try.prog 23 #[.string (s ++ u)] W fun e w' => e = .returned (.string (rv u ++ rv s)) ∧ Below W.heap.size W w')
      have HBs := Lib.hid (fun W => Border_any s W (by omega))
      have HBv := Lib.hid (fun W => Border_any (rv s) W (by omega))
      have hmb := mb_rv s
      rw [hmb] at HBv
      have HTs := Lib.hid (fun W => Root_any s W (by omega))
      have HTv := Lib.hid (fun W => Root_any (rv s) W (by omega))
      unfold RetRoot at HTs HTv
      rw [rl_rv, rv_size] at HTv
      have hsz : ((s.extract 0 (rl s)).size) = ((rv s).extract 0 (rl s)).size := by rw [ByteArray.size_extract, ByteArray.size_extract, rv_size]
      have HF1 := Lib.hid (fun W (h : W.cell? ⟨0, 0, none⟩ = some (.int .i64 m)) (h0 : 0 < W.heap.size) => Find_any s u m (by omega) (by omega) W h h0)
      have HF2 := Lib.hid (fun W (h : W.cell? ⟨0, 0, none⟩ = some (.int .i64 m)) (h0 : 0 < W.heap.size) => Find_any (rv s) (rv u) m (by omega) (by omega) W h h0)
      have hlen := occL_rv_len s u
      have hol := occL_length s.data.toList u.data.toList (s.size + 1)
      have HAT := Lib.hid (occL_rv_at s u)
      obtain ⟨L, hL⟩ : ∃ L, occL s.data.toList u.data.toList (s.size + 1) = L := ⟨_, rfl⟩
      obtain ⟨T, hT⟩ : ∃ T, occL (rv s).data.toList (rv u).data.toList ((rv s).size + 1) = T := ⟨_, rfl⟩
      rw [hL] at HF1 hlen HAT hol
      rw [hT] at HF2 hlen HAT
      obtain ⟨A, hA⟩ : ∃ A, s.extract 0 (rl s) = A := ⟨_, rfl⟩
      obtain ⟨A', hA'⟩ : ∃ A', (rv s).extract 0 (rl s) = A' := ⟨_, rfl⟩
      rw [hA] at HTs hsz
      rw [hA'] at HTv hsz
      obtain ⟨q, hq⟩ : ∃ q, s.size / rl s = q := ⟨_, rfl⟩
      rw [hq] at HTs HTv
      obtain ⟨b, hb⟩ : ∃ b, mb (at' s) s.size = b := ⟨_, rfl⟩
      rw [hb] at HBs HBv
      have HRs' := Lib.hid (show ∀ W, Calls Try.prog 23 #[.string s] W fun e w' => e = .returned (.string (rv s)) ∧ Below W.heap.size W w' from fun W => HRs.out W)
      have HRu' := Lib.hid (show ∀ W, Calls Try.prog 23 #[.string u] W fun e w' => e = .returned (.string (rv u)) ∧ Below W.heap.size W w' from fun W => HRu.out W)
      obtain ⟨V, hV⟩ : ∃ V, rv s = V := ⟨_, rfl⟩
      obtain ⟨U, hU⟩ : ∃ U, rv u = U := ⟨_, rfl⟩
      rw [hV] at HRs' HRv HRa HBv HTv HF2 r1
      rw [hU] at HRu' HRa HF2 r2
      have hV40 : V.size ≤ 40 := by omega
      have hU40 : U.size ≤ 40 := by omega
      have t1 : ((V.size : Int) != s.size) = false := by rw [r1]; simp
      have t2 : ((A.size : Int) != A'.size) = false := by rw [hsz]; simp
      have t3 : ((L.length : Int) != T.length) = false := by rw [hlen]; simp
      have HLEN := Lib.hid hlen
      clear hsu r1 r2 hmb hsz hlen hL hT hA hA' hq hb hV hU HRs HRu
      go_enter Try.func5, Try.ntmps5
      have HB0 := Lib.hid (Below.refl w.heap.size w)
      go_wp2_with fail
      refine (HRs'.out _).mono ?_
      rintro e w1 ⟨rfl, hb⟩
      have HB1 := Lib.hid (bstep HB0.out hb)
      clear hb
      go_wp2_with fail
      refine (HTs.out _).mono ?_
      rintro e w2 ⟨rfl, hb⟩
      have HB2 := Lib.hid (bstep HB1.out hb)
      clear hb
      go_wp2_with fail
      refine (HTv.out _).mono ?_
      rintro e w3 ⟨rfl, hb⟩
      have HB3 := Lib.hid (bstep HB2.out hb)
      clear hb
      go_wp2_with fail
      refine (HRv.out _).mono ?_
      rintro e w4 ⟨rfl, hb⟩
      have HB4 := Lib.hid (bstep HB3.out hb)
      clear hb
      go_wp2_with fail
      refine (HBv.out _).mono ?_
      rintro e w5 ⟨rfl, hb⟩
      have HB5 := Lib.hid (bstep HB4.out hb)
      clear hb
      go_wp2_with fail
      refine (HBs.out _).mono ?_
      rintro e w6 ⟨rfl, hb⟩
      have HB6 := Lib.hid (bstep HB5.out hb)
      clear hb
      go_wp2_with fail
      refine (HF1.out _ ((HB6.out.cell (p := ⟨0, 0, none⟩) h₀).trans HM.out) (Nat.lt_of_lt_of_le h₀ HB6.out.size)).mono ?_
      rintro e w7 ⟨v1, rfl, hr1, hb⟩
      have HB7 := Lib.hid (bstep HB6.out hb)
      have R1 := Lib.hid (IntsAt.of_row hr1)
      clear hb hr1
      obtain ⟨va, vc, rfl⟩ := R1.out.form
      go_wp2_with fail
      refine (HRu'.out _).mono ?_
      rintro e w8 ⟨rfl, hb⟩
      have HB8 := Lib.hid (bstep HB7.out hb)
      have R2 := Lib.hid (R1.out.below hb)
      clear hb
      go_wp2_with fail
      refine (HF2.out _ ((HB8.out.cell (p := ⟨0, 0, none⟩) h₀).trans HM.out) (Nat.lt_of_lt_of_le h₀ HB8.out.size)).mono ?_
      rintro e w9 ⟨v2, rfl, hr2, hb⟩
      have HB9 := Lib.hid (bstep HB8.out hb)
      have R3 := Lib.hid (IntsAt.of_row hr2)
      have R4 := Lib.hid (R2.out.below hb)
      clear hb hr2
      obtain ⟨ta, tc, rfl⟩ := R3.out.form
      go_wp2_with fail
      clear HRv HBs HBv HTs HTv HF1 HF2 HRs' R1 R2 t1 t2 t3
      go_loopg [79] (L.length + 1) (fun g i wr => ∃ k : Nat, i = .int .i64 k ∧ k ≤ L.length ∧ L.length - k ≤ g ∧ wr = w9)
      case atStart => exact ⟨0, rfl, by omega, by omega, rfl⟩
      case round =>
        obtain ⟨k, rfl, hk, hg, rfl⟩ := hrel
        by_cases hlt : k < L.length
        · obtain ⟨d, hd⟩ : ∃ d, k + 1 + d = L.length := ⟨L.length - 1 - k, by omega⟩
          obtain ⟨g1, ha, c0⟩ := R4.out.cellAt hlt
          obtain ⟨g2, hta, c1⟩ := R3.out.cellAt (k := d) (by rw [HLEN.out]; omega)
          have hxy := HAT.out k d hd
          subst ha
          subst hta
          obtain ⟨x, hx⟩ : ∃ x, L.getD k 0 = x := ⟨_, rfl⟩
          obtain ⟨y, hy⟩ : ∃ y, T.getD d 0 = y := ⟨_, rfl⟩
          rw [hx] at c0 hxy
          rw [hy] at c1 hxy
          have t4 : ((y : Int) != (s.size : Int) - u.size - x) = false := by rw [hxy]; simp
          have i0 : (0 : Int) ≤ k := by omega
          have i1 : (k : Int) < L.length := by omega
          have i2 : (L.length : Int) - 1 - k = d := by omega
          have i3 : (d : Int) < T.length := by rw [HLEN.out]; omega
          have i4 : (0 : Int) ≤ d := by omega
          have hx40 : x ≤ 40 := by omega
          have HD := Lib.hid hd
          clear hx hy hxy hd
          go_wp2
          go_roundg (L.length - k - 1)
          case rel => exact ⟨k + 1, by go_num, by omega, by omega, rfl⟩
          case measure => omega
        · obtain rfl : k = L.length := by omega
          clear HAT R3 R4
          go_wp2_with fail
          refine (HRa.out _).mono ?_
          rintro e wa ⟨rfl, hb⟩
          have HBa := Lib.hid (bstep HB9.out hb)
          clear hb
          go_wp2_with fail
          refine (HRu'.out _).mono ?_
          rintro e wb ⟨rfl, hb⟩
          have HBb := Lib.hid (bstep HBa.out hb)
          clear hb
          go_wp2_with fail
          refine (awake07 m _ ((HBb.out.cell (p := ⟨0, 0, none⟩) h₀).trans HM.out) (Nat.lt_of_lt_of_le h₀ HBb.out.size)).mono ?_
          rintro e wc ⟨rfl, hb⟩
          go_wp2
          go_ret
          exact ⟨rfl, bstep HBb.out hb⟩
end Go.Proofs.Gv
