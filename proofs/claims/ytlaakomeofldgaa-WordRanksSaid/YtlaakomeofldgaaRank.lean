/- word.Rank: the number of lesser words. -/
import Derived.Test.YtlaakomeofldgaaChk
import Derived.Test.YtlaakomeofldgaaNext
import Derived.Test.YtlaakomeofldgaaIntVP
import Derived.Deep.RegionHeld3
namespace Go.Proofs.Gv
open Go Go.RowKit

/-- The number that the first k letters make to the base q. -/
def rk (q : Nat) (s : ByteArray) : Nat → Int
  | 0 => 0
  | k + 1 => rk q s k * q + dg (at' s k)
theorem rk_bd (q : Nat) (hq : q ≤ 16) (s : ByteArray) (h : ∀ j, j < s.size → okL q (at' s j) = true) : ∀ k, k ≤ s.size → 0 ≤ rk q s k ∧ rk q s k < (256 : Int) ^ k := by
  intro k
  induction k with
  | zero => intro _; exact ⟨Int.le_refl _, by show (0 : Int) < 1; decide⟩
  | succ k ih =>
    intro hk
    obtain ⟨h1, h2⟩ := ih (by omega)
    have h3 := h k (by omega)
    unfold okL at h3
    simp at h3
    have h4 := dg_lt (at' s k)
    have h5 : rk q s k * q ≤ rk q s k * 16 := Int.mul_le_mul_of_nonneg_left (by omega) h1
    have h6 : 0 ≤ rk q s k * q := Int.mul_nonneg h1 (by omega)
    rw [Int.pow_succ]
    unfold rk
    constructor
    · omega
    · omega
theorem rk_size (q : Nat) (hq : q ≤ 16) (s : ByteArray) (h : ∀ j, j < s.size → okL q (at' s j) = true) (k : Nat) (hk : k ≤ s.size) : (mg (rk q s k).natAbs).size ≤ k := by
  obtain ⟨h1, h2⟩ := rk_bd q hq s h k hk
  refine size_pow ?_
  have : ((rk q s k).natAbs : Int) = rk q s k := by omega
  have h3 : ((256 ^ k : Nat) : Int) = (256 : Int) ^ k := by simp
  omega

/-- The rank comes back. -/
def RetRank (q : Int) (s : ByteArray) (w : World) (e : Ending) (w' : World) : Prop :=
  e = .returned (.tuple #[.agg #[.bool (sgn (if chk q s = 0 then rk q.toNat s s.size else 0)), .string (mg (if chk q s = 0 then rk q.toNat s s.size else 0).natAbs)], .int .i64 (chk q s)]) ∧ Below w.heap.size w w'

/-- While the letters are read: the sum's block, the base's block, the result's block. -/
structure RkSt (w wr : World) (bs bb : Nat) (z q : Int) : Prop where
  s0 : wr.cell? ⟨bs, 0, none⟩ = some (.bool (sgn z))
  s1 : wr.cell? ⟨bs, 1, none⟩ = some (.string (mg z.natAbs))
  f0 : wr.frozen? ⟨bs, 0, none⟩ = false
  f1 : wr.frozen? ⟨bs, 1, none⟩ = false
  b0 : wr.cell? ⟨bb, 0, none⟩ = some (.bool (sgn q))
  b1 : wr.cell? ⟨bb, 1, none⟩ = some (.string (mg q.natAbs))
  r0 : ∃ v, wr.cell? ⟨w.heap.size, 0, none⟩ = some v
  r1 : ∃ v, wr.cell? ⟨w.heap.size, 1, none⟩ = some v
  g0 : wr.frozen? ⟨w.heap.size, 0, none⟩ = false
  g1 : wr.frozen? ⟨w.heap.size, 1, none⟩ = false
  ls : bs < wr.heap.size
  lb : bb < wr.heap.size
  be : Below w.heap.size w wr
  hs : w.heap.size < bs
  hb : bs < bb

/-- A call that makes memory alone. -/
theorem RkSt.next {w wr W W' : World} {bs bb : Nat} {z q : Int} (h : RkSt w wr bs bb z q) (hb : Below W.heap.size W W') (e1 : W.heap = wr.heap := by rfl) (e2 : W.os = wr.os := by rfl) (e3 : W.tape = wr.tape := by rfl) (e4 : W.output = wr.output := by rfl) : RkSt w W' bs bb z q := by
  have hb' : Below wr.heap.size wr W' := ⟨hb.os.trans e2, hb.tape.trans e3, hb.output.trans e4, by rw [← e1]; exact hb.size, fun k hk => by rw [← e1]; exact hb.block k (by rw [e1]; exact hk)⟩
  have hw := h.be.size
  exact ⟨(hb'.cell (p := ⟨bs, 0, none⟩) h.ls).trans h.s0, (hb'.cell (p := ⟨bs, 1, none⟩) h.ls).trans h.s1, (hb'.frozen (p := ⟨bs, 0, none⟩) h.ls).trans h.f0, (hb'.frozen (p := ⟨bs, 1, none⟩) h.ls).trans h.f1,
    (hb'.cell (p := ⟨bb, 0, none⟩) h.lb).trans h.b0, (hb'.cell (p := ⟨bb, 1, none⟩) h.lb).trans h.b1,
    h.r0.imp fun v hv => (hb'.cell (p := ⟨w.heap.size, 0, none⟩) (Nat.lt_trans h.hs h.ls)).trans hv, h.r1.imp fun v hv => (hb'.cell (p := ⟨w.heap.size, 1, none⟩) (Nat.lt_trans h.hs h.ls)).trans hv,
    (hb'.frozen (p := ⟨w.heap.size, 0, none⟩) (Nat.lt_trans h.hs h.ls)).trans h.g0, (hb'.frozen (p := ⟨w.heap.size, 1, none⟩) (Nat.lt_trans h.hs h.ls)).trans h.g1,
    Nat.lt_of_lt_of_le h.ls hb'.size, Nat.lt_of_lt_of_le h.lb hb'.size, h.be.trans (hb'.mono hw), h.hs, h.hb⟩
/-- A new sum. -/
theorem RkSt.store {w wr : World} {bs bb : Nat} {z q : Int} (h : RkSt w wr bs bb z q) (y : Int) : RkSt w ((wr.setCell ⟨bs, 0, none⟩ (.bool (sgn y))).setCell ⟨bs, 1, none⟩ (.string (mg y.natAbs))) bs bb y q := by
  have n1 : ∀ o (b : Nat), b ≠ bs → ∀ i, (⟨bs, o, none⟩ : Addr) ≠ ⟨b, i, none⟩ := fun o b hb i e => hb (congrArg Addr.block e).symm
  have keep : ∀ b, b ≠ bs → ∀ i, ((wr.setCell ⟨bs, 0, none⟩ (.bool (sgn y))).setCell ⟨bs, 1, none⟩ (.string (mg y.natAbs))).cell? ⟨b, i, none⟩ = wr.cell? ⟨b, i, none⟩ := fun b hb i =>
    (World.cell?_setCell_other _ _ _ _ (n1 1 b hb i)).trans (World.cell?_setCell_other _ _ _ _ (n1 0 b hb i))
  have hle := h.hs
  have hbb := h.hb
  have hc1 : (wr.setCell ⟨bs, 0, none⟩ (.bool (sgn y))).cell? ⟨bs, 1, none⟩ = some (.string (mg z.natAbs)) :=
    (World.cell?_setCell_other _ _ _ _ (fun e => by have := congrArg Addr.off e; simp at this)).trans h.s1
  refine ⟨?_, World.cell?_setCell_same _ _ _ hc1, by simpa using h.f0, by simpa using h.f1, (keep bb (by omega) 0).trans h.b0, (keep bb (by omega) 1).trans h.b1,
    h.r0.imp fun v hv => (keep _ (by omega) 0).trans hv, h.r1.imp fun v hv => (keep _ (by omega) 1).trans hv, by simpa using h.g0, by simpa using h.g1, by simpa using h.ls, by simpa using h.lb, ?_, h.hs, h.hb⟩
  · exact (World.cell?_setCell_other _ _ _ _ (fun e => by have := congrArg Addr.off e; simp at this)).trans (World.cell?_setCell_same _ _ _ h.s0)
  · exact (h.be.setCell (p := ⟨bs, 0, none⟩) (by show w.heap.size ≤ bs; omega) _).setCell (p := ⟨bs, 1, none⟩) (by show w.heap.size ≤ bs; omega) _
theorem RkSt.same {w wr wr' : World} {bs bb : Nat} {z q : Int} (h : RkSt w wr bs bb z q) (e1 : wr'.heap = wr.heap := by rfl) (e2 : wr'.os = wr.os := by rfl) (e3 : wr'.tape = wr.tape := by rfl) (e4 : wr'.output = wr.output := by rfl) : RkSt w wr' bs bb z q :=
  h.next (W := wr') (Below.refl _ _) e1 e2 e3 e4

set_option maxRecDepth 100000 in
set_option maxHeartbeats 1600000 in
theorem Rank_any (q : Int) (s : ByteArray) (w : World) (hs : s.size ≤ 9223372036854775807) :
    Calls Try.prog 40 #[.int .i64 q, .string s] w (RetRank q s w) := by
  by_cases hc : chk q s = 0
  · obtain ⟨h1, h2, h3, hw⟩ := chk_ok hc
    have HW := Lib.hid (show ∀ j, j < s.size → okL q.toNat (at' s j) = true from okW_iff.mp hw)
    have hc0 : (chk q s != 0) = false := by rw [hc]; rfl
    have HC := Lib.hid hc
    clear hw hc
    go_enter Try.func40, Try.ntmps40
    go_wp2_with (first | (go_at_call 37; refine (WCheck_go _ _ _ hs).mono ?_; rintro e w' ⟨rfl, nn, rfl⟩) | (go_at_call 45; refine (Of_any _ _ (by omega) (by omega)).mono ?_; rintro e w' ⟨rfl, hb⟩))
    have hst : RkSt w (w'.alloc (.cells #[.bool (sgn q), .string (mg q.natAbs)] 49)) (w.heap.size + 1) w'.heap.size 0 q := by
      have hO := (((Own.one w (.cells #[.bool false, .string ⟨#[]⟩] 49)).dr (Dr.of _ nn)).push (by simp) (.cells #[.bool false, .string ⟨#[]⟩] 49)).next hb
      obtain ⟨a0, a1, a2, a3, a4⟩ := hO.blk 0 w.heap.size rfl rfl
      obtain ⟨c0, c1, c2, c3, c4⟩ := hO.blk 1 (w.heap.size + 1) rfl rfl
      have hB := Below.refl w'.heap.size w' |>.alloc (Nat.le_refl _) (.cells #[.bool (sgn q), .string (mg q.natAbs)] 49)
      obtain ⟨d0, d1, d2, d3, d4⟩ := blk_facts (heap_alloc_new w' (.cells #[.bool (sgn q), .string (mg q.natAbs)] 49))
      have hz : mg (0 : Int).natAbs = ⟨#[]⟩ := mg_zero
      exact ⟨(hB.cell (p := ⟨_, 0, none⟩) c4).trans c0, (hB.cell (p := ⟨_, 1, none⟩) c4).trans (by rw [c1, hz]), (hB.frozen (p := ⟨_, 0, none⟩) c4).trans c2, (hB.frozen (p := ⟨_, 1, none⟩) c4).trans c3, d0, d1,
        ⟨_, (hB.cell (p := ⟨_, 0, none⟩) a4).trans a0⟩, ⟨_, (hB.cell (p := ⟨_, 1, none⟩) a4).trans a1⟩, (hB.frozen (p := ⟨_, 0, none⟩) a4).trans a2, (hB.frozen (p := ⟨_, 1, none⟩) a4).trans a3,
        by simp; omega, d4, hO.below.trans (hB.mono (by have := hO.below.size; omega)), by omega, by omega⟩
    obtain ⟨bb, hbb⟩ : ∃ bb, w'.heap.size = bb := ⟨_, rfl⟩
    obtain ⟨W0, hW0⟩ : ∃ W0, w'.alloc (.cells #[.bool (sgn q), .string (mg q.natAbs)] 49) = W0 := ⟨_, rfl⟩
    rw [hW0, hbb] at hst
    rw [hW0, hbb]
    clear hW0 hbb hb
    go_loopw [21] (fun i wr => ∃ k : Nat, k ≤ s.size ∧ i = .int .i64 k ∧ RkSt w wr (w.heap.size + 1) bb (rk q.toNat s k) q) (fun i _ => s.size - (intOf i).toNat)
    case atStart => exact ⟨0, Nat.zero_le _, rfl, hst⟩
    case round =>
      obtain ⟨k, hk, rfl, hr⟩ := hrel
      clear hst
      by_cases hlt : k < s.size
      · have hx : (s[k]'(by omega)) = at' s k := at'_eq (by omega)
        have hi0 : (0 : Int) ≤ k := by omega
        have hi1 : (k : Int) < s.size := by omega
        obtain ⟨z, hz⟩ : ∃ z, rk q.toNat s k = z := ⟨_, rfl⟩
        obtain ⟨d, hd⟩ : ∃ d, dg (at' s k) = d := ⟨_, rfl⟩
        obtain ⟨p, hp⟩ : ∃ p, z * q = p := ⟨_, rfl⟩
        have hd0 : 0 ≤ d := by
          have := HW.out k hlt
          unfold okL at this
          simp at this
          omega
        have hd1 := dg_lt (at' s k)
        rw [hd] at hd1
        have hsz := rk_size q.toNat (by omega) s HW.out k hk
        rw [hz] at hsz hr
        have hpz : (mg p.natAbs).size ≤ 65537 := by
          obtain ⟨g1, g2⟩ := rk_bd q.toNat (by omega) s HW.out k hk
          rw [hz] at g1 g2
          have : (mg p.natAbs).size ≤ k + 1 := by
            refine size_pow ?_
            have h5 : z * q ≤ z * 16 := Int.mul_le_mul_of_nonneg_left (by omega) g1
            have h6 : 0 ≤ z * q := Int.mul_nonneg g1 (by omega)
            have h7 : (p.natAbs : Int) = p := by omega
            have h8 : ((256 ^ (k + 1) : Nat) : Int) = (256 : Int) ^ k * 256 := by simp [Int.pow_succ]
            omega
          omega
        have hdz : (mg d.natAbs).size ≤ 1 := size_pow (k := 1) (by omega)
        have hqz : (mg q.natAbs).size ≤ 1 := size_pow (k := 1) (by omega)
        have HM := Lib.hid (fun W => hp ▸ Mul_V z q W (by omega) (by omega) : ∀ W, Calls Try.prog 63 #[.agg #[.bool (sgn z), .string (mg z.natAbs)], .agg #[.bool (sgn q), .string (mg q.natAbs)]] W (RetI W p))
        have HY := Lib.hid (show rk q.toNat s (k + 1) = p + d by rw [← hp, ← hd, ← hz]; show rk q.toNat s k * (q.toNat : Int) + _ = _; rw [show (q.toNat : Int) = q by omega])
        obtain ⟨y, hy⟩ : ∃ y, p + d = y := ⟨_, rfl⟩
        rw [hy] at HY
        have HA := Lib.hid (fun W => hy ▸ Add_V p d W (by omega) (by omega) : ∀ W, Calls Try.prog 44 #[.agg #[.bool (sgn p), .string (mg p.natAbs)], .agg #[.bool (sgn d), .string (mg d.natAbs)]] W (RetI W y))
        have HI := Lib.hid (show ∀ W, Calls Try.prog 60 #[.string ⟨#[48, 49, 50, 51, 52, 53, 54, 55, 56, 57, 97, 98, 99, 100, 101, 102]⟩, .int .u8 (at' s k).toNat] W fun e w' => e = .returned (.int .i64 d) ∧ W = w' from fun W => (ixA_any (at' s k) W).mono fun e w' h => ⟨by rw [h.1, hd], h.2.symm⟩)
        clear hp hd hz hy hsz hpz hdz hqz
        have HS := Lib.hid hr
        have s0 := hr.s0
        have s1 := hr.s1
        have f0 := hr.f0
        have f1 := hr.f1
        have b0 := hr.b0
        have b1 := hr.b1
        have ne1 : ¬ w.heap.size + 1 = bb := by have := hr.hb; omega
        clear hr
        go_wp2
        go_region_with (first
          | (go_at_call 63; refine (HM.out _).mono ?_; rintro e w1 ⟨rfl, hb⟩; have HS1 := Lib.hid (HS.out.next hb); have s10 := HS1.out.s0; have s11 := HS1.out.s1; have b10 := HS1.out.b0; have b11 := HS1.out.b1; clear hb)
          | (go_at_call 60; refine (HI.out _).mono ?_; rintro e w2 ⟨rfl, rfl⟩)
          | (go_at_call 45; refine (Of_any _ _ (by omega) (by omega)).mono ?_; rintro e w3 ⟨rfl, hb⟩; have HS2 := Lib.hid (HS1.out.next hb); have s20 := HS2.out.s0; have s21 := HS2.out.s1; have b20 := HS2.out.b0; have b21 := HS2.out.b1; clear hb)
          | (go_at_call 44; refine (HA.out _).mono ?_; rintro e w4 ⟨rfl, hb⟩; have HS3 := Lib.hid (HS2.out.next hb); have s30 := HS3.out.s0; have s31 := HS3.out.s1; have b30 := HS3.out.b0; have b31 := HS3.out.b1; have f30 := HS3.out.f0; have f31 := HS3.out.f1; clear hb))
        all_goals go_wp2
        all_goals (
          go_roundw
          case rel => exact ⟨k + 1, by omega, by go_num, by rw [HY.out]; exact HS3.out.store y⟩
          case measure => simp [intOf]; omega)
      · obtain rfl : k = s.size := by omega
        obtain ⟨z, hz⟩ : ∃ z, rk q.toNat s s.size = z := ⟨_, rfl⟩
        rw [hz] at hr
        have HZ := Lib.hid hz
        have HS := Lib.hid hr
        have s0 := hr.s0
        have s1 := hr.s1
        have g0 := hr.g0
        have g1 := hr.g1
        obtain ⟨v0, r0⟩ := hr.r0
        obtain ⟨v1, r1⟩ := hr.r1
        clear hr hz
        go_wp2
        refine bodyPost_ret (v := .tuple #[.agg #[.bool (sgn z), .string (mg z.natAbs)], .int .i64 0]) (by simp [results, Try.results40, go_sem, r0, r1]) rfl ?_
        refine ⟨?_, (HS.out.be.setCell (p := ⟨w.heap.size, 0, none⟩) (Nat.le_refl _) _).setCell (p := ⟨w.heap.size, 1, none⟩) (Nat.le_refl _) _⟩
        rw [HC.out, if_pos rfl, HZ.out]
  · have hc0 : (chk q s != 0) = true := by rw [bne_iff_ne]; exact hc
    have HN := Lib.hid hc
    clear hc
    go_enter Try.func40, Try.ntmps40
    go_wp2_with (go_at_call 37; refine (WCheck_go _ _ _ hs).mono ?_; rintro e w' ⟨rfl, nn, rfl⟩)
    refine bodyPost_ret (v := .tuple #[.agg #[.bool false, .string ⟨#[]⟩], .int .i64 (chk q s)]) (by simp [results, Try.results40, go_sem]) rfl ?_
    refine ⟨?_, ((below_drewN ((Below.refl _ w).alloc (Nat.le_refl _) _) _).setCell (p := ⟨w.heap.size, 0, none⟩) (Nat.le_refl _) _).setCell (p := ⟨w.heap.size, 1, none⟩) (Nat.le_refl _) _⟩
    rw [if_neg HN.out, show mg (0 : Int).natAbs = ⟨#[]⟩ from mg_zero]
    rfl
end Go.Proofs.Gv
