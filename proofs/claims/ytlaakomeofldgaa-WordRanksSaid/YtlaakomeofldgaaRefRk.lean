/- grooveref07: Rank. -/
import Derived.Test.YtlaakomeofldgaaUnBadP
import Derived.Test.YtlaakomeofldgaaRefW
import Derived.Test.YtlaakomeofldgaaFront
import Derived.Test.YtlaakomeofldgaaUnrank
namespace Go.Proofs.Gv
open Go Go.RowKit

theorem rOfN {x : Nat} (h : x < 9223372036854775808) (X : World) :
    Calls Try.prog 66 #[.int .i64 x] X fun e w' => e = .returned (.agg #[.bool false, .string (mg x)]) ∧ Below X.heap.size X w' := by
  have := rOf_any (x : Int) X (by omega) (by omega)
  unfold RetI at this
  rwa [sgnN, Int.natAbs_natCast] at this
/-- The boxes of Rank: the result, the sum. -/
structure RkN (w W : World) (b7 z : Nat) : Prop where
  be : Below w.heap.size w W
  r : Bx W w.heap.size false ⟨#[]⟩
  o : Bx W b7 false (mg z)
  l7 : w.heap.size < b7
theorem RkN.below {w W W' : World} {b7 z : Nat} (h : RkN w W b7 z) (hb : Below W.heap.size W W') : RkN w W' b7 z := ⟨bstep h.be hb, h.r.below hb, h.o.below hb, h.l7⟩
theorem RkN.set {w W : World} {b7 z : Nat} (h : RkN w W b7 z) (y : Nat) : RkN w ((W.setCell ⟨b7, 0, none⟩ (.bool false)).setCell ⟨b7, 1, none⟩ (.string (mg y))) b7 y := by
  have h1 := h.l7
  exact ⟨(h.be.setCell (p := ⟨b7, 0, none⟩) (by show w.heap.size ≤ b7; omega) _).setCell (p := ⟨b7, 1, none⟩) (by show w.heap.size ≤ b7; omega) _, h.r.other (by omega), h.o.set, h.l7⟩
theorem rn_bits {q : Nat} {s : ByteArray} {k : Nat} (h2 : q ≤ 16) (hW : Wd q s k) (hk : k ≤ 24) : rn q s k < 2 ^ 96 := by
  have h1 := rn_lt k hW
  have h3 : q ^ k ≤ 16 ^ k := Nat.pow_le_pow_left h2 k
  have h4 : 16 ^ k ≤ 16 ^ 24 := Nat.pow_le_pow_right (by decide) hk
  have h5 : (16 : Nat) ^ 24 = 2 ^ 96 := by decide
  omega

set_option maxRecDepth 100000 in
set_option maxHeartbeats 4000000 in
theorem rRank_bad (q : Int) (s : ByteArray) (w : World) (hs : s.size ≤ 9223372036854775807) (hc : chk q s ≠ 0) :
    Calls Try.prog 41 #[.int .i64 q, .string s] w (RetRank q s w) := by
  have HC := Lib.hid (fun W => rCheckW_any q s W hs)
  have hcc : (chk q s != 0) = true := by rw [bne_iff_ne]; exact hc
  have HF := Lib.hid (fun W => show ∀ (_ : Below w.heap.size w W), RetRank q s w (.returned (.tuple #[.agg #[.bool false, .string ⟨#[]⟩], .int .i64 (chk q s)])) W from fun hb => by
    unfold RetRank
    rw [if_neg hc, sgn_zero, Int.natAbs_zero, mg_zero]
    exact ⟨rfl, hb⟩)
  obtain ⟨c, hcq⟩ : ∃ c, chk q s = c := ⟨_, rfl⟩
  rw [hcq] at HC hcc HF
  clear hcq hc
  have HB := Lib.hid (Bx.new w w.heap.size false ⟨#[]⟩ rfl)
  have HL := Lib.hid ((Below.refl w.heap.size w).alloc (Nat.le_refl _) (.cells #[.bool false, .string ⟨#[]⟩] 49))
  obtain ⟨r0, r1, r2, r3, _⟩ := id HB.out
  go_enter Try.func41, Try.ntmps41
  go_wp2_with (go_at_call 38; refine (HC.out _).mono ?_; rintro e w' ⟨rfl, rfl⟩)
  refine bodyPost_ret (v := .tuple #[.agg #[.bool false, .string ⟨#[]⟩], .int .i64 c]) (by simp [results, Try.results41, go_sem, r0, r1]) rfl ?_
  exact HF.out _ HL.out

set_option maxRecDepth 100000 in
set_option maxHeartbeats 4000000 in
theorem rRank_good (q : Nat) (s : ByteArray) (w : World) (hs : s.size ≤ 24) (hc : chk q s = 0) :
    Calls Try.prog 41 #[.int .i64 q, .string s] w (RetRank q s w) := by
  obtain ⟨q1, q2, _, hw⟩ := chk_ok hc
  have hW : Wd q s s.size := Wd.of (by simpa using hw)
  have HW := Lib.hid hW
  have HC := Lib.hid (fun W => (rCheckW_any q s W (by omega)).mono fun e w' h => (⟨by rw [h.1, hc], h.2⟩ : e = .returned (.int .i64 0) ∧ W = w'))
  have HF := Lib.hid (fun W => show ∀ (_ : Below w.heap.size w W), RetRank q s w (.returned (.tuple #[.agg #[.bool false, .string (mg (rn q s s.size))], .int .i64 0])) W from fun hb => by
    unfold RetRank
    rw [hc, if_pos rfl, Int.toNat_natCast, rk_rn _ hW, sgnN, Int.natAbs_natCast]
    exact ⟨rfl, hb⟩)
  obtain ⟨M, hM⟩ : ∃ M, 96 = M := ⟨_, rfl⟩
  have HBt := Lib.hid (fun k (hk : k ≤ s.size) => show rn q s k < 2 ^ M from by rw [← hM]; exact rn_bits (by omega) (fun j hj => hW j (by omega)) (by omega))
  have HMs := Lib.hid (show M ≤ 96 by omega)
  have HSm := Lib.hid (fun x (h : x ≤ 16) => show x < 2 ^ M from by rw [← hM]; exact Nat.lt_of_le_of_lt h (by decide))
  have HOq := Lib.hid (fun W => rOfN (x := q) (by omega) W)
  have hq16 : q ≤ 16 := by omega
  have HQ := Lib.hid hq16
  clear hc hw hM hq16 q1 q2 hW
  have HB := Lib.hid (Bx.new w w.heap.size false ⟨#[]⟩ rfl)
  have HL := Lib.hid ((Below.refl w.heap.size w).alloc (Nat.le_refl _) (.cells #[.bool false, .string ⟨#[]⟩] 49))
  go_enter Try.func41, Try.ntmps41
  go_upto_region 5 with (go_at_call 38; refine (HC.out _).mono ?_; rintro e w' ⟨rfl, rfl⟩)
  have HS := Lib.hid (show RkN w ((w.alloc (.cells #[.bool false, .string ⟨#[]⟩] 49)).alloc (.cells #[.bool false, .string ⟨#[]⟩] 49)) (w.heap.size + 1) 0 from
    ⟨HL.out.alloc (by simp) _, HB.out.alloc _, by rw [mg_zero]; exact Bx.new (w.alloc (.cells #[.bool false, .string ⟨#[]⟩] 49)) (w.heap.size + 1) false ⟨#[]⟩ (by simp), Nat.lt_succ_self _⟩)
  obtain ⟨b7, hb7⟩ : ∃ b, w.heap.size + 1 = b := ⟨_, rfl⟩
  obtain ⟨W0, hW0⟩ : ∃ X, (w.alloc (.cells #[.bool false, .string ⟨#[]⟩] 49)).alloc (.cells #[.bool false, .string ⟨#[]⟩] 49) = X := ⟨_, rfl⟩
  rw [hb7, hW0] at HS
  rw [hb7, hW0]
  clear hb7 hW0 HB HL HC
  go_wp2
  go_loopg [8] (s.size + 1) (fun gg v8 wr => ∃ k z : Nat, v8 = .int .i64 k ∧ k ≤ s.size ∧ s.size - k < gg ∧ z = rn q s k ∧ RkN w wr b7 z)
  case atStart => exact ⟨0, 0, rfl, Nat.zero_le _, by omega, rfl, HS.out⟩
  case round =>
    clear HS
    obtain ⟨k, z, rfl, hk, hg, hz, hs⟩ := hrel
    have HG := Lib.hid hg
    have HZ := Lib.hid hz
    have HS := Lib.hid hs
    clear hg hz hs
    by_cases hlt : k < s.size
    · have hx : (s[k]'hlt) = at' s k := at'_eq hlt
      have i0 : (0 : Int) ≤ k := by omega
      have i1 : (k : Int) < s.size := by omega
      obtain ⟨hd1, hd2⟩ := HW.out k hlt
      obtain ⟨d, hd⟩ : ∃ d : Nat, dg (at' s k) = d := ⟨(dg (at' s k)).toNat, by omega⟩
      rw [hd, Int.toNat_natCast] at hd2
      have HDg := Lib.hid (fun X => (rdigit_any (at' s k) X).mono fun e w' h => (⟨by rw [h.1, hd], h.2 ▸ Below.refl _ _⟩ : e = .returned (.int .i64 d) ∧ Below X.heap.size X w'))
      have HOd := Lib.hid (fun W => rOfN (x := d) (by have := HQ.out; omega) W)
      have HNX := Lib.hid (show z * q + d = rn q s (k + 1) by
        show _ = rn q s k * q + (dg (at' s k)).toNat
        rw [hd, Int.toNat_natCast, ← HZ.out])
      have hzM : z < 2 ^ M := by rw [HZ.out]; exact HBt.out k (by omega)
      have HMu := Lib.hid (fun W => rMulN hzM (HSm.out q HQ.out) (by have := HMs.out; omega) W)
      have hzq : z * q < 2 ^ M := by
        have h1 := HBt.out (k + 1) (by omega)
        rw [← HNX.out] at h1
        omega
      have HAd := Lib.hid (fun W => rAddN hzq (HSm.out d (by have := HQ.out; omega)) (by have := HMs.out; omega) W)
      obtain ⟨p, hp⟩ : ∃ p, z * q = p := ⟨_, rfl⟩
      rw [hp] at HMu HAd HNX
      obtain ⟨t, ht⟩ : ∃ t, p + d = t := ⟨_, rfl⟩
      rw [ht] at HAd HNX
      clear hd1 hd2 hd hzM hzq hp ht
      obtain ⟨o0, o1, o2, o3, _⟩ := id HS.out.o
      go_upto_region 8 with fail
      refine wp_region_front 10 zvI (by kernel_rfl) shI (by kernel_rfl) (by kernel_rfl) (zvI_alloc _ (by kernel_rfl)) (shI_store _ (by kernel_rfl)) ?_
      intro mm BW hm1 hm2 hBW
      haveI := clm_some mm BW
      have fq0 := fun u : Clm mm BW => (HS.out.o.clm hm1 hBW u).1
      have fr0 := fun u : Clm mm BW => (HS.out.o.clm hm1 hBW u).2
      simp only [frontOf, unmade, List.take_succ_cons, List.take_zero, List.map_cons, List.map_nil]
      iterate 2 (go_big_quiet_step (fail))
      go_big_quiet_step ((go_at_call 66; exact quiet_clm hm2 HOq.out _))
      go_big_quiet_step ((go_at_call 65; exact quiet_clm hm2 HMu.out _))
      iterate 3 (go_big_quiet_step (fail))
      go_big_quiet_step ((go_at_call 61; exact quiet_clm hm2 HDg.out _))
      go_big_quiet_step ((go_at_call 66; exact quiet_clm hm2 HOd.out _))
      go_big_quiet_step ((go_at_call 64; exact quiet_clm hm2 HAd.out _))
      refine wpQuiet_nil ?_
      refine ⟨List.forall_mem_nil _, ?_⟩
      intro γ w9 hB9 hF
      clear hF hBW this hm1 hm2 fq0 fr0 o0 o1 o2 o3
      clear BW mm
      simp only [madesFrom, Facts, patch, List.take_succ_cons, List.take_zero, List.drop_succ_cons, List.drop_zero]
      clear γ
      have HS9 := Lib.hid (HS.out.below hB9)
      clear hB9 HS
      obtain ⟨o0, o1, o2, o3, _⟩ := id HS9.out.o
      go_wp2
      go_roundg (s.size - k)
      case rel => exact ⟨k + 1, t, by go_num, by omega, by omega, HNX.out, HS9.out.set t⟩
      case measure => exact HG.out
    · obtain rfl : k = s.size := by omega
      obtain ⟨o0, o1, o2, o3, _⟩ := id HS.out.o
      obtain ⟨r0, r1, r2, r3, _⟩ := id HS.out.r
      go_wp2
      refine bodyPost_ret (v := .tuple #[.agg #[.bool false, .string (mg z)], .int .i64 0]) (by simp [results, Try.results41, go_sem, r0, r1]) rfl ?_
      rw [HZ.out]
      exact HF.out _ ((HS.out.be.setCell (p := ⟨w.heap.size, 0, none⟩) (Nat.le_refl _) _).setCell (p := ⟨w.heap.size, 1, none⟩) (Nat.le_refl _) _)
end Go.Proofs.Gv
