/- integer.Root. -/
import Derived.Test.YtpnhccpfbeidlaaDoorHas
import Derived.Test.YtpnhccpfbeidlaaDoorPowerI
namespace Go.Proofs.Gv
open Go Go.RowKit

open Classical in
/-- The greatest number whose power n is at most x. -/
noncomputable def nrt (n x : Nat) : Nat := if h : ∃ r, r ^ n ≤ x ∧ x < (r + 1) ^ n then Classical.choose h else 0
theorem nrt_eq {n x r : Nat} (h1 : r ^ n ≤ x) (h2 : x < (r + 1) ^ n) : nrt n x = r := by
  have hex : ∃ r, r ^ n ≤ x ∧ x < (r + 1) ^ n := ⟨r, h1, h2⟩
  unfold nrt
  rw [dif_pos hex]
  obtain ⟨a, b⟩ := Classical.choose_spec hex
  have hn : n ≠ 0 := by
    intro e; subst e; simp at h1 h2; omega
  have c1 : r < Classical.choose hex + 1 := by
    have := Nat.lt_of_le_of_lt h1 b
    exact (Nat.pow_lt_pow_iff_left hn).1 this
  have c2 : Classical.choose hex < r + 1 := by
    have := Nat.lt_of_le_of_lt a h2
    exact (Nat.pow_lt_pow_iff_left hn).1 this
  omega
/-- While the root is made: the box of n, the box of the digits, the result's block. -/
structure RtSt (w wr : World) (bx : Nat) (n x : Nat) (Ax : Option Addr) (cx : Nat) : Prop where
  cn : wr.cell? ⟨w.heap.size + 1, 0, none⟩ = some (.int .i64 n)
  cb : wr.cell? ⟨bx, 0, none⟩ = some (.slice Ax (nlen x) cx)
  nx : Nt wr wr.heap.size Ax cx x
  r0 : ∃ v, wr.cell? ⟨w.heap.size + 1 + 1, 0, none⟩ = some v
  r1 : ∃ v, wr.cell? ⟨w.heap.size + 1 + 1, 1, none⟩ = some v
  g0 : wr.frozen? ⟨w.heap.size + 1 + 1, 0, none⟩ = false
  g1 : wr.frozen? ⟨w.heap.size + 1 + 1, 1, none⟩ = false
  ln : w.heap.size + 1 + 1 < bx
  lx : bx < wr.heap.size
  be : Below w.heap.size w wr
theorem RtSt.next {w wr W' : World} {bx n x : Nat} {Ax : Option Addr} {cx : Nat} (h : RtSt w wr bx n x Ax cx) (hb : Below wr.heap.size wr W') : RtSt w W' bx n x Ax cx := by
  have h1 := h.ln
  have h2 := h.lx
  have h3 := h.be.size
  exact ⟨(hb.cell (p := ⟨w.heap.size + 1, 0, none⟩) (by show w.heap.size + 1 < _; omega)).trans h.cn, (hb.cell (p := ⟨bx, 0, none⟩) h2).trans h.cb, h.nx.next hb,
    h.r0.imp fun v hv => (hb.cell (p := ⟨w.heap.size + 1 + 1, 0, none⟩) (by show w.heap.size + 1 + 1 < _; omega)).trans hv, h.r1.imp fun v hv => (hb.cell (p := ⟨w.heap.size + 1 + 1, 1, none⟩) (by show w.heap.size + 1 + 1 < _; omega)).trans hv,
    (hb.frozen (p := ⟨w.heap.size + 1 + 1, 0, none⟩) (by show w.heap.size + 1 + 1 < _; omega)).trans h.g0, (hb.frozen (p := ⟨w.heap.size + 1 + 1, 1, none⟩) (by show w.heap.size + 1 + 1 < _; omega)).trans h.g1,
    h1, Nat.lt_of_lt_of_le h2 hb.size, h.be.trans (hb.mono h3)⟩
theorem pow_room {x n k0 : Nat} (h : bl x ≤ k0 * n) : x < (2 ^ k0) ^ n := by
  rw [← Nat.pow_mul]; exact bl_le_iff.1 h
theorem nlen_below {R k0 : Nat} (h : R < 2 ^ k0) : nlen R ≤ k0 / 32 + 1 := by
  rw [nlen_le_iff, show B32 = 2 ^ 32 from rfl, ← Nat.pow_mul]
  exact Nat.lt_of_lt_of_le h (Nat.pow_le_pow_right (by decide) (by omega))

set_option maxRecDepth 100000 in
set_option maxHeartbeats 3200000 in
theorem Root_ok (na : Bool) (sa : ByteArray) (n : Nat) (w : World) (ha : sa.size ≤ 1000000) (hneg : na = true → bv sa.data.toList = 0) (hn1 : 1 ≤ n) (hn2 : n ≤ 4096) :
    Calls Tryd.prog 18 #[.agg #[.bool na, .string sa], .int .i64 n] w (RetIE w (nrt n (bv sa.data.toList) : Nat) 0) := by
  have l1 := nlen_bv (s := sa)
  obtain ⟨x, hx⟩ : ∃ x, bv sa.data.toList = x := ⟨_, rfl⟩
  have HD := Lib.hid (fun W => hx ▸ digits_any na sa W (by omega) : ∀ W, Calls Tryd.prog 28 #[.agg #[.bool na, .string sa]] W (RetNat W x))
  rw [hx] at l1 hneg ⊢
  clear hx
  have hlx : nlen x ≤ 250001 := by omega
  have hbx := bl_bound x
  obtain ⟨L, hL⟩ : ∃ L, bl x = L := ⟨_, rfl⟩
  obtain ⟨k0, hk0⟩ : ∃ k0, (L + n - 1) / n = k0 := ⟨_, rfl⟩
  have hkn : L ≤ k0 * n ∧ k0 * n ≤ L + n := by
    rw [← hk0]
    have h1 := Nat.div_add_mod (L + n - 1) n
    have h2 := Nat.mod_lt (L + n - 1) (show n > 0 by omega)
    rw [Nat.mul_comm] at h1
    omega
  have HX0 := Lib.hid (pow_room (x := x) (n := n) (k0 := k0) (by rw [hL]; exact hkn.1))
  rw [hL] at hbx
  have HLn := Lib.hid (fun A c W h1 h2 => hL ▸ length_any A c x W h1 h2 : ∀ A c W, Nt W W.heap.size A c x → nlen x ≤ 10000000 → Calls Tryd.prog 40 #[.slice A (nlen x) c] W fun e w' => e = .returned (.int .i64 (L : Nat)) ∧ W = w')
  have HLq := Lib.hid (show ∀ A c W, Nt W W.heap.size A c x → Calls Tryd.prog 40 #[.slice A (nlen x) c] W fun e w' => e = .returned (.int .i64 (L : Nat)) ∧ w' = W from fun A c W h => (HLn.out A c W h (by omega)).mono fun e w' h => ⟨h.1, h.2.symm⟩)
  have hk1 : k0 ≤ 8005000 := by
    have h3 : k0 * 1 ≤ k0 * n := Nat.mul_le_mul_left _ hn1
    omega
  have hk2 : (k0 / 32 + 1) * n ≤ 4000000 := by
    have h3 : k0 / 32 * n ≤ k0 * n / 32 := by
      have : 32 * (k0 / 32 * n) ≤ k0 * n := by
        rw [← Nat.mul_assoc]; exact Nat.mul_le_mul_right _ (Nat.mul_div_le _ _)
      omega
    rw [Nat.add_mul]
    omega
  have hkI : ((L : Int) + n - 1) / (n : Int) = (k0 : Int) := by
    rw [← hk0]
    have : (L : Int) + n - 1 = ((L + n - 1 : Nat) : Int) := by omega
    rw [this]; simp
  have HKI := Lib.hid hkI
  have hO := Lib.hid (Own.three w (.cells #[.bool na, .string sa] 23) (.cells #[.int .i64 n] 3) (.cells #[.bool false, .string ⟨#[]⟩] 23))
  have hnl : na = true → decide ((0 : Int) < (nlen x : Nat)) = false ∧ decide (0 < nlen x) = false := fun h => by
    have := hneg h
    subst this
    rw [nlen_zero]; exact ⟨rfl, rfl⟩
  have t1 : ¬ (n : Int) < 1 := by omega
  have t2 : ¬ (4096 : Int) < n := by omega
  have HNL := Lib.hid hnl
  clear hneg hL hk0 hnl hkI
  cases na
  all_goals
    try obtain ⟨hnl2, hnl3⟩ := HNL.out rfl
    clear HNL
    go_enter Tryd.func18, Tryd.ntmps18
    go_wp2_with fail
    refine (HD.out _).mono ?_
    rintro e w1 ⟨A, c, rfl, hn, hb⟩
    have HO1 := Lib.hid (hO.out.next hb)
    obtain ⟨a0, a1, a2, a3, a4⟩ := HO1.out.blk 0 w.heap.size rfl rfl
    obtain ⟨b0, b1, b2⟩ := HO1.out.blk1 1 (w.heap.size + 1) rfl rfl
    obtain ⟨c0, c1, c2, c3, c4⟩ := HO1.out.blk 2 (w.heap.size + 1 + 1) rfl rfl
    have hbl := (Below.refl w1.heap.size w1).alloc (Nat.le_refl _) (.cells #[.slice A (nlen x) c] 46)
    have hst : RtSt w (w1.alloc (.cells #[.slice A (nlen x) c] 46)) w1.heap.size n x A c :=
      ⟨(hbl.cell (p := ⟨w.heap.size + 1, 0, none⟩) b2).trans b0, by simp, hn.next hbl,
        ⟨_, (hbl.cell (p := ⟨w.heap.size + 1 + 1, 0, none⟩) c4).trans c0⟩, ⟨_, (hbl.cell (p := ⟨w.heap.size + 1 + 1, 1, none⟩) c4).trans c1⟩,
        (hbl.frozen (p := ⟨w.heap.size + 1 + 1, 0, none⟩) c4).trans c2, (hbl.frozen (p := ⟨w.heap.size + 1 + 1, 1, none⟩) c4).trans c3,
        by omega, by simp, HO1.out.below.trans (hbl.mono HO1.out.below.size)⟩
    have HST := Lib.hid hst
    have HN1 := Lib.hid hn
    clear hb hn hbl hst
    go_wp2_with fail
    obtain ⟨bx, hbxx⟩ : ∃ b, w1.heap.size = b := ⟨_, rfl⟩
    obtain ⟨W0, hW0⟩ : ∃ W0, w1.alloc (.cells #[.slice A (nlen x) c] 46) = W0 := ⟨_, rfl⟩
    rw [hW0, hbxx] at HST
    rw [hW0, hbxx]
    clear hW0 hbxx a0 a1 a2 a3 a4 b0 b1 b2 c0 c1 c2 c3 c4 HO1 HN1 HLn
    have cn := HST.out.cn
    have cb := HST.out.cb
    have q1 : IntKind.i64.wrap ((L : Int) + n) = (L : Int) + n := by rw [IntKind.wrap_i64]; omega
    have q2 : IntKind.i64.wrap ((L : Int) + n - 1) = (L : Int) + n - 1 := by rw [IntKind.wrap_i64]; omega
    have q3 := HKI.out
    have q4 : (0 : Int) ≤ (L : Int) + n - 1 := by omega
    have q5 : IntKind.i64.wrap (k0 : Int) = k0 := by rw [IntKind.wrap_i64]; omega
    have q6 : IntKind.i64.wrap ((k0 : Int) - 1) = (k0 : Int) - 1 := by rw [IntKind.wrap_i64]; omega
    go_quiet ((go_at_call 40; exact Calls.quiet_of_same (HLq.out A c _ (HST.out.nx.same))))
    clear q1 q2 q3 q4 q5 q6
    go_wp2_with fail
    go_loopg [8, 9] (k0 + 1) (fun g v i wr => ∃ (z : Int) (k R : Nat) (A' : Option Addr) (c' : Nat), v = .slice A' (nlen R) c' ∧ i = .int .i64 z ∧ z + 1 = k ∧ k ≤ k0 ∧ k ≤ g ∧ Nt wr wr.heap.size A' c' R ∧ RtSt w wr bx n x A c ∧ R ^ n ≤ x ∧ x < (R + 2 ^ k) ^ n ∧ R % 2 ^ k = 0 ∧ R + 2 ^ k ≤ 2 ^ k0)
    case atStart =>
      exact ⟨_, k0, 0, none, 0, by rw [nlen_zero], rfl, by omega, Nat.le_refl _, by omega, Nt.zero _ _ _ _ (by omega), HST.out.next (below_drewN (Below.refl _ _) _), by rw [Nat.zero_pow (by omega)]; omega, by rw [Nat.zero_add]; exact HX0.out, Nat.zero_mod _, by omega⟩
    case round =>
      obtain ⟨z, k, R, A', c', rfl, rfl, hz, hk, hg, hnt, hst, p1, p2, p3, p4⟩ := hrel
      have HN := Lib.hid hnt
      have HS := Lib.hid hst
      have P1 := Lib.hid p1
      have P2 := Lib.hid p2
      have P3 := Lib.hid p3
      have P4 := Lib.hid p4
      clear hnt hst p1 p2 p3 p4 HST cn cb
      rcases k with _ | k
      · obtain rfl : z = -1 := by omega
        clear hz
        have HR := Lib.hid (nrt_eq P1.out (by have := P2.out; rwa [Nat.pow_zero] at this))
        have hnR : nlen R ≤ 10000000 := by
          have h1 := P4.out
          have := nlen_below (R := R) (k0 := k0) (by have := Nat.two_pow_pos 0; omega)
          omega
        go_wp2_with fail
        refine (number_nt false A' c' R _ HN.out hnR).mono ?_
        rintro e w4 ⟨rfl, hb4⟩
        have HS4 := Lib.hid (HS.out.next hb4)
        obtain ⟨v0, r0⟩ := HS4.out.r0
        obtain ⟨v1, r1⟩ := HS4.out.r1
        have g0 := HS4.out.g0
        have g1 := HS4.out.g1
        clear hb4
        go_wp2
        refine bodyPost_ret (v := .tuple #[.agg #[.bool (sg false R), .string (mg R)], .int .i64 0]) (by simp [results, Tryd.results18, go_sem, r0, r1]) rfl ?_
        refine ⟨?_, (HS4.out.be.setCell (p := ⟨w.heap.size + 1 + 1, 0, none⟩) (by show w.heap.size ≤ w.heap.size + 1 + 1; omega) _).setCell (p := ⟨w.heap.size + 1 + 1, 1, none⟩) (by show w.heap.size ≤ w.heap.size + 1 + 1; omega) _⟩
        rw [HR.out, Int.natAbs_natCast]
        have : sg false R = sgn (R : Int) := by rw [sg_eq]; rfl
        rw [this]
      · obtain rfl : z = k := by omega
        clear hz
        have hR0 : R + 2 ^ k < 2 ^ k0 := by
          have h1 := P4.out
          rw [Nat.pow_succ] at h1
          have := Nat.two_pow_pos k
          omega
        have hnR := nlen_below (R := R) (k0 := k0) (Nat.lt_of_le_of_lt (Nat.le_add_right _ _) hR0)
        have hnR2 := nlen_below hR0
        have hnn : nlen (R + 2 ^ k) * n ≤ 4000000 := Nat.le_trans (Nat.mul_le_mul_right _ hnR2) hk2
        have hmod : R % 2 ^ k = 0 := by
          have h1 := P3.out
          have h2 : R % 2 ^ (k + 1) % 2 ^ k = R % 2 ^ k := Nat.mod_mod_of_dvd _ (Nat.pow_dvd_pow 2 (by omega))
          rw [h1, Nat.zero_mod] at h2
          exact h2.symm
        have HMOD := Lib.hid hmod
        have hpk : R + 2 ^ (k + 1) = R + 2 ^ k + 2 ^ k := by rw [Nat.pow_succ]; omega
        have HPK := Lib.hid hpk
        have HH := Lib.hid (fun A2 c2 W h1 h2 h3 h4 => has_any A2 A c2 c (R + 2 ^ k) x n (w.heap.size + 1) bx W h1 h2 (by omega) (by omega) (by omega) h3 h4)
        have HSet := Lib.hid (set_any A' c' R k wr HN.out (by omega) (by omega) P3.out)
        obtain ⟨y, hy⟩ : ∃ y, R + 2 ^ k = y := ⟨_, rfl⟩
        rw [hy] at HH HSet hnn hnR2
        have HY := Lib.hid hy
        clear hy hmod hpk hR0
        by_cases hle : y ^ n ≤ x
        · rw [decide_eq_true hle] at HH
          have HLE := Lib.hid hle
          clear hle
          go_wp2_with fail
          refine HSet.out.mono ?_
          rintro e w2 ⟨A2, c2, rfl, hn2', hb2⟩
          have HN2 := Lib.hid hn2'
          have HS2 := Lib.hid (HS.out.next hb2)
          clear hb2 hn2'
          go_wp2_with fail
          refine (HH.out A2 c2 _ HN2.out HS2.out.nx (by have := HS2.out.ln; have := HS2.out.lx; omega) HS2.out.lx HS2.out.cn HS2.out.cb).mono ?_
          rintro e w3 ⟨rfl, hb3⟩
          have HS3 := Lib.hid (HS2.out.next hb3)
          have HN3 := Lib.hid (HN2.out.next hb3)
          clear hb3
          go_wp2
          go_roundg k
          case rel => exact ⟨_, k, y, A2, c2, rfl, rfl, by omega, by omega, by omega, HN3.out, HS3.out, HLE.out, by rw [← HY.out, ← HPK.out]; exact P2.out, by rw [← HY.out, Nat.add_mod_right]; exact HMOD.out, by rw [← HY.out, ← HPK.out]; exact P4.out⟩
          case measure => omega
        · rw [decide_eq_false hle] at HH
          have HLE := Lib.hid (show x < y ^ n by omega)
          clear hle
          go_wp2_with fail
          refine HSet.out.mono ?_
          rintro e w2 ⟨A2, c2, rfl, hn2', hb2⟩
          have HN2 := Lib.hid hn2'
          have HN2R := Lib.hid (HN.out.next hb2)
          have HS2 := Lib.hid (HS.out.next hb2)
          clear hb2 hn2'
          go_wp2_with fail
          refine (HH.out A2 c2 _ HN2.out HS2.out.nx (by have := HS2.out.ln; have := HS2.out.lx; omega) HS2.out.lx HS2.out.cn HS2.out.cb).mono ?_
          rintro e w3 ⟨rfl, hb3⟩
          have HS3 := Lib.hid (HS2.out.next hb3)
          have HN3 := Lib.hid (HN2R.out.next hb3)
          clear hb3
          go_wp2
          go_roundg k
          case rel => exact ⟨_, k, R, A', c', rfl, rfl, by omega, by omega, by omega, HN3.out, HS3.out, P1.out, by rw [HY.out]; exact HLE.out, HMOD.out, by have := P4.out; rw [HPK.out] at this; exact Nat.le_trans (Nat.le_add_right _ _) this⟩
          case measure => omega
end Go.Proofs.Gv
