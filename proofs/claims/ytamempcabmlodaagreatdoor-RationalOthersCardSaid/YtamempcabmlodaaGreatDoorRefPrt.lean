import Derived.Test.YtamempcabmlodaaGreatDoorRefMag
set_option maxHeartbeats 8000000
set_option maxRecDepth 100000
set_option linter.unusedSimpArgs false
set_option linter.unusedVariables false
namespace Go.Proofs.Gv
open Go Go.RowKit
def bf (m n j : Nat) : UInt8 := UInt8.ofNat (m / 256 ^ (n - 1 - j) % 256)
theorem bf_nat (m n j : Nat) : (bf m n j).toNat = m / 256 ^ (n - 1 - j) % 256 := by
 unfold bf
 rw [UInt8.toNat_ofNat']
 omega
theorem bf_mg {A j : Nat} (h : j < (mg A).size) : at' (mg A) j = bf A (mg A).size j := by
 apply UInt8.toNat_inj.mp
 rw [bf_nat]
 have h1 := byte_at (mg A) ((mg A).size - 1 - j) (by omega)
 rw [bv_mg] at h1
 rw [← at'_eq h]
 have h2 : (mg A).size - 1 - ((mg A).size - 1 - j) = j := by omega
 have h3 : (mg A)[(mg A).size - 1 - ((mg A).size - 1 - j)]'(by omega) = (mg A)[j]'h := by congr 1
 rw [← h3]
 exact h1
theorem bf_zero {m n j t : Nat} (h : m < 256 ^ (n - t)) (hj : j < t) (ht : t ≤ n) : bf m n j = 0 := by
 apply UInt8.toNat_inj.mp
 rw [bf_nat, Nat.div_eq_of_lt (Nat.lt_of_lt_of_le h (Nat.pow_le_pow_right (by decide) (by omega)))]
 rfl
theorem ten_step (m k : Nat) : (m / 256 ^ (k + 1) % 10 * 256 + m / 256 ^ k % 256) / 10 = m / 10 / 256 ^ k % 256 ∧ (m / 256 ^ (k + 1) % 10 * 256 + m / 256 ^ k % 256) % 10 = m / 256 ^ k % 10 := by
 have e1 : m / 256 ^ (k + 1) = m / 256 ^ k / 256 := by rw [Nat.div_div_eq_div_mul, Nat.pow_succ]
 have e2 : m / 10 / 256 ^ k = m / 256 ^ k / 10 := by rw [Nat.div_div_eq_div_mul, Nat.div_div_eq_div_mul, Nat.mul_comm]
 rw [e1, e2]
 generalize m / 256 ^ k = q
 omega
theorem ten_or {r c : Nat} (hr : r < 10) (hc : c < 256) : bits .or .i64 ((r : Int) * 256) (c : Nat) = ((r * 256 + c : Nat) : Int) := by
 rw [show (r : Int) * 256 = ((r * 2 ^ 8 : Nat) : Int) by simp, i64_or_nat _ _ (by omega) (by omega), nat_join 8 _ _ (Nat.mul_mod_left _ _) (by omega)]
theorem owns_keep {w w' : World} {base size n : Nat} {e : TypeId} {v : Value} {xs : List Value} (h : w.ownsRow base e size v n xs) (hk : ∀ k, base ≤ k → w'.heap[k]? = w.heap[k]?) : w'.ownsRow base e size v n xs := by
 refine ⟨h.1, h.2.imp id ?_⟩
 rintro ⟨g, cap, cur, h1, h2, h3, h4⟩
 exact ⟨g, cap, cur, h1, h2, (hk g h2).trans h3, h4⟩
theorem owns_brow {w : World} {base n : Nat} {v : Value} {L : List UInt8} (h : w.ownsRow base 5 1 v n (u8s L)) (hn : 0 < n) (hl : L.length = n) :
  ∃ g c, v = .slice (some ⟨g, 0, none⟩) n c ∧ base ≤ g ∧ BRow w g n (fun j => L.getD j 0) := by
 rcases h.2 with ⟨_, h0⟩ | ⟨g, cap, cur, hv, hB, hg, hc, _, hs, ht⟩
 ·omega
 ·refine ⟨g, cap, hv, hB, ?_, fun j hj => ?_, fun j hj => ?_⟩
  ·rcases Nat.lt_or_ge g w.heap.size with h1 | h1
   ·exact h1
   ·rw [Array.getElem?_eq_none h1] at hg; cases hg
  ·have h1 : cur[j]? = some (.int .u8 ((L.getD j 0).toNat : Int)) := by
    have h2 : (cur.toList.take (n * 1))[j]? = some (.int .u8 ((L.getD j 0).toNat : Int)) := by
     rw [ht]
     unfold u8s
     rw [List.getElem?_map, List.getElem?_eq_getElem (by omega), List.getD_eq_getElem?_getD, List.getElem?_eq_getElem (by omega)]
     rfl
    rw [List.getElem?_take, if_pos (by omega)] at h2
    simpa using h2
   simp [World.cell?, hg, h1]
  ·simp [World.frozen?, hg]
structure PrSt (w W : World) (g n : Nat) (ns : Bool) (A : Nat) (f : Nat → UInt8) (v : Value) (L : List UInt8) : Prop where
 be : Below w.heap.size w W
 bx : Bx W w.heap.size ns (mg A)
 row : BRow W g n f
 own : W.ownsRow (g + 1) 5 1 v L.length (u8s L)
 hg : w.heap.size < g
 gs : g + 1 ≤ W.heap.size
section
variable {w W : World} {g n A : Nat} {ns : Bool} {f h : Nat → UInt8} {v : Value} {L : List UInt8}
theorem PrSt.congr (H : PrSt w W g n ns A f v L) (e : ∀ j, j < n → f j = h j) : PrSt w W g n ns A h v L := ⟨H.be, H.bx, H.row.congr e, H.own, H.hg, H.gs⟩
theorem PrSt.put (H : PrSt w W g n ns A f v L) (k : Nat) (hk : k < n) {V : Int} {c : UInt8} (hV : V = (c.toNat : Int)) : PrSt w (W.setCell ⟨g, k, none⟩ (.int .u8 V)) g n ns A (fun j => if j = k then c else f j) v L := by
 have hg := H.hg
 have e : ∀ o, (W.setCell ⟨g, k, none⟩ (.int .u8 V)).cell? ⟨w.heap.size, o, none⟩ = W.cell? ⟨w.heap.size, o, none⟩ := fun o => World.cell?_setCell_other _ _ _ _ (fun e => by have := congrArg Addr.block e; simp at this; omega)
 exact ⟨H.be.setCell (p := ⟨g, k, none⟩) (by show w.heap.size ≤ g; omega) _, ⟨(e 0).trans H.bx.c0, (e 1).trans H.bx.c1, by rw [World.frozen?_setCell]; exact H.bx.z0, by rw [World.frozen?_setCell]; exact H.bx.z1, by simpa using H.bx.lt⟩,
  H.row.set' k hk hV, owns_keep H.own fun j hj => Below.heap_setCell _ _ _ _ (by show j ≠ g; omega), H.hg, by simpa using H.gs⟩
theorem PrSt.app (H : PrSt w W g n ns A f v L) {o : Obj} {w1 : World} {v' : Value} {c : UInt8} (hg : (W.alloc o).grownBy w1 v.ownBlock) (ho : w1.ownsRow (g + 1) 5 1 v' (L.length + 1) (u8s L ++ [.int .u8 (c.toNat : Nat)])) :
  PrSt w w1 g n ns A f v' (L ++ [c]) := by
 have hgg := H.hg
 have hB : Below (g + 1) W w1 := ((Below.refl (g + 1) W).alloc H.gs o).grown hg (by have := H.gs; simp; omega) (fun k e => (H.own.lt k e).1)
 have hb2 : Below w.heap.size w w1 := H.be.trans (hB.mono (by omega))
 have hs := hB.size
 refine ⟨hb2, ?_, H.row.below hB (by omega), by rw [u8s_snoc, List.length_append]; exact ho, H.hg, Nat.le_trans H.gs hs⟩
 have hl : w.heap.size < g + 1 := by omega
 exact ⟨(hB.cell (p := ⟨_, 0, none⟩) hl).trans H.bx.c0, (hB.cell (p := ⟨_, 1, none⟩) hl).trans H.bx.c1, (hB.frozen (p := ⟨_, 0, none⟩) hl).trans H.bx.z0, (hB.frozen (p := ⟨_, 1, none⟩) hl).trans H.bx.z1, Nat.lt_of_lt_of_le H.bx.lt hs⟩
end
def rvF (L : List UInt8) (N i j : Nat) : UInt8 := if j < i ∨ N ≤ j + i then L.getD (N - 1 - j) 0 else L.getD j 0
theorem rv_end {L : List UInt8} {N i : Nat} (hl : L.length = N) (h : N ≤ 2 * i + 1) : (List.range N).map (rvF L N i) = L.reverse := by
 apply List.ext_getElem
 ·simp [hl]
 ·intro j h1 h2
  have hj : j < N := by simpa using h1
  rw [List.getElem_map, List.getElem_range, List.getElem_reverse]
  have e : ∀ k (hk : k < N), L.getD k 0 = L[k]'(by omega) := fun k hk => by rw [List.getD_eq_getElem?_getD, List.getElem?_eq_getElem (by omega)]; rfl
  unfold rvF
  by_cases hc : j < i ∨ N ≤ j + i
  ·rw [if_pos hc, e _ (by omega)]
   congr 1
   omega
  ·rw [if_neg hc, e _ hj]
   congr 1
   omega
theorem rv_step {W : World} {g N i K : Nat} {L : List UInt8} (h : BRow W g N (rvF L N i)) (hK : K + i + 1 = N) (hik : i < K) {a b : UInt8} (ha : L.getD i 0 = a) (hb : L.getD K 0 = b) :
  BRow ((W.setCell ⟨g, i, none⟩ (.int .u8 b.toNat)).setCell ⟨g, K, none⟩ (.int .u8 a.toNat)) g N (rvF L N (i + 1)) :=
 ((h.set i (by omega) b).set K (by omega) a).congr fun j hj => by
  unfold rvF
  by_cases e : j = K
  ·subst e
   rw [if_pos rfl, if_pos (by omega), show N - 1 - j = i by omega, ha]
  ·rw [if_neg e]
   by_cases e2 : j = i
   ·subst e2
    rw [if_pos rfl, if_pos (by omega), show N - 1 - j = K by omega, hb]
   ·rw [if_neg e2]
    by_cases e3 : j < i ∨ N ≤ j + i
    ·rw [if_pos e3, if_pos (by omega)]
    ·rw [if_neg e3, if_neg (by omega)]
theorem pr_minus {w W w1 : World} {g n A N : Nat} {ns : Bool} {f : Nat → UInt8} {v v' : Value} {L L2 : List UInt8} {o : Obj} (H : PrSt w W g n ns A f v L) (hL2 : L ++ [45] = L2) (hN : L.length + 1 = N)
  (hg : (W.alloc o).grownBy w1 v.ownBlock) (ho : w1.ownsRow (g + 1) 5 1 v' (L.length + 1) (u8s L ++ [.int .u8 45])) :
  ∃ g2 c2, v' = .slice (some ⟨g2, 0, none⟩) N c2 ∧ w.heap.size ≤ g2 ∧ BRow w1 g2 N (rvF L2 N 0) ∧ Below w.heap.size w w1 := by
 have h1 := H.app (c := 45) hg ho
 rw [hL2] at h1
 have hl : L2.length = N := by rw [← hL2, List.length_append]; exact hN
 have h2 := h1.own
 rw [hl] at h2
 obtain ⟨g2, c2, e, hB, hr⟩ := owns_brow h2 (by omega) hl
 have := H.hg
 exact ⟨g2, c2, e, by omega, hr.congr fun j hj => by unfold rvF; rw [if_neg (by omega)], h1.be⟩
theorem rPrint_pos (na : Bool) (sa : ByteArray) (w : World) (ha : sa.size ≤ 90000) (h0 : 0 < bv sa.data.toList) :
  Calls Tryz.prog 65 #[.agg #[.bool na, .string sa]] w fun e w' => e = .returned (.string ⟨((if na then [45] else []) ++ dec (bv sa.data.toList)).toArray⟩) ∧ Below w.heap.size w w' := by
 obtain ⟨i0, hi, hz0, hz1, hz2⟩ := info_parts Tryz.info5z
 have HCn := Lib.hid (fun X => show Calls Tryz.prog 73 #[.agg #[.bool na, .string sa]] X (fun e w' => e = .returned (.agg #[.bool na, .string (mg (bv sa.data.toList))]) ∧ Below X.heap.size X w') from by
  have := rcanon_any na sa X (by omega)
  unfold RetI at this
  have hs : sgn (iv na sa) = na := by
   unfold iv sgn
   cases na
   ·exact decide_eq_false (by simp)
   ·exact decide_eq_true (by simp; omega)
  rwa [hs, iv_abs] at this)
 obtain ⟨A, hA⟩ : ∃ A, bv sa.data.toList = A := ⟨_, rfl⟩
 have hsz : (mg A).size ≤ 90000 := by rw [← hA]; exact Nat.le_trans (size_mg (by have := bv_lt sa.data.toList; simpa using this)) ha
 rw [hA] at HCn h0 ⊢
 clear hA ha
 have hE := mg_full (show A ≠ 0 by omega)
 have HA0 := Lib.hid h0
 obtain ⟨S, hS⟩ : ∃ S, mg A = S := ⟨_, rfl⟩
 obtain ⟨n, hn⟩ : ∃ n, S.size = n := ⟨_, rfl⟩
 have HBF := Lib.hid (fun j (h : j < n) => show at' S j = bf A n j from by have := bf_mg (A := A) (j := j) (by rw [hS, hn]; exact h); rwa [hS, hn] at this)
 have HAn := Lib.hid (show A < 256 ^ n from by
  have := bv_lt (byt A)
  rwa [bv_byt, ← size_mgL, hS, hn] at this)
 have HS := Lib.hid hS
 rw [hS] at HCn hsz hE
 rw [hn] at hsz
 have hcv := fun W => conv_to W S
 have HR := Lib.hid (fun W => hn ▸ byW_row W S : ∀ W, BRow (byW W S) W.heap.size n (at' S))
 have HBW := Lib.hid (fun W => byW_below W S)
 have HWZ := Lib.hid (fun W => byW_size W S)
 rw [hn] at hcv
 clear hS hn h0
 have HL0 := Lib.hid ((Below.refl w.heap.size w).alloc (Nat.le_refl _) (.cells #[.bool na, .string sa] 23))
 have HB0 := Lib.hid (Bx.new w w.heap.size na sa rfl)
 go_enter Tryz.func65, Tryz.ntmps65
 obtain ⟨x0, x1, x2, x3, _⟩ := id HB0.out
 go_upto_region 2 with (go_at_call 73; refine (HCn.out _).mono ?_; rintro e W1 ⟨rfl, hb⟩; have HL1 := Lib.hid (bstep HL0.out hb); have HX1 := Lib.hid (HB0.out.below hb); clear hb x0 x1 x2 x3; obtain ⟨x0, x1, x2, x3, _⟩ := id HX1.out)
 have HX2 := Lib.hid (HX1.out.set (n' := na) (s' := S))
 have HL2 := Lib.hid ((HL1.out.setCell (p := ⟨w.heap.size, 0, none⟩) (Nat.le_refl _) (.bool na)).setCell (p := ⟨w.heap.size, 1, none⟩) (Nat.le_refl _) (.string S))
 obtain ⟨W2, hW2⟩ : ∃ W2, (W1.setCell ⟨w.heap.size, 0, none⟩ (.bool na)).setCell ⟨w.heap.size, 1, none⟩ (.string S) = W2 := ⟨_, rfl⟩
 rw [hW2] at HX2 HL2 ⊢
 clear hW2 x0 x1 x2 x3 HX1 HL1 HL0 HB0 HCn
 obtain ⟨x0, x1, x2, x3, _⟩ := id HX2.out
 go_wp2
 have hst : PrSt w (byW W2 S) W2.heap.size n na A (fun j => bf A n j) (.slice none 0 0) [] :=
  ⟨bstep HL2.out (HBW.out W2), by rw [HS.out]; exact HX2.out.below (HBW.out W2), (HR.out W2).congr fun j hj => HBF.out j hj, ⟨rfl, .inl ⟨rfl, rfl⟩⟩, HX2.out.lt, by rw [HWZ.out]; omega⟩
 obtain ⟨g, hg⟩ : ∃ g, W2.heap.size = g := ⟨_, rfl⟩
 obtain ⟨C, hC⟩ : ∃ C, byC W2 S = C := ⟨_, rfl⟩
 obtain ⟨W3, hW3⟩ : ∃ W3, byW W2 S = W3 := ⟨_, rfl⟩
 rw [hW3, hg] at hst
 rw [hW3, hg, hC]
 clear hW3 hg hC x0 x1 x2 x3 HX2 HL2 HR HBW HWZ HBF hcv
 have HST := Lib.hid hst
 clear hst
 go_loopg [3, 5, 6, 7] (A + 1) (fun gg v3 v5 v6 v7 wr => ∃ (m t : Nat) (L : List UInt8), v5 = .int .i64 t ∧ t ≤ n ∧ m < gg ∧ m < 256 ^ (n - t) ∧ (m = 0 → t = n) ∧ dec A = dec m ++ L.reverse ∧ L.length + (dec m).length ≤ 720000 ∧ PrSt w wr g n na A (fun j => bf m n j) v3 L)
 case atStart => exact ⟨A, 0, [], rfl, Nat.zero_le _, Nat.lt_succ_self _, HAn.out, fun h => by have := HA0.out; omega, by simp, by
  have := dec_len (8 * n) A (by rw [← p256]; exact HAn.out)
  simp; omega, HST.out⟩
 case round =>
  clear HST
  obtain ⟨m, t, L, rfl, ht, hg, hm, hmt, hd, hl, hs⟩ := hrel
  have HGG := Lib.hid hg
  have HM := Lib.hid hm
  have HMT := Lib.hid hmt
  have HD := Lib.hid hd
  have HLL := Lib.hid hl
  have HS := Lib.hid hs
  clear hg hm hmt hd hl hs
  by_cases hm0 : m = 0
  ·have htn := HMT.out hm0
   have HLR := Lib.hid (show L.reverse = dec A by rw [HD.out, hm0, dec_zero]; rfl)
   have hL0 : 0 < L.length := by
    rcases Nat.eq_zero_or_pos L.length with h | h
    ·have h1 : L = [] := List.eq_nil_of_length_eq_zero h
     have h2 := HLR.out
     rw [h1, dec_pos (by have := HA0.out; omega)] at h2
     simp at h2
    ·exact h
   have hLb : L.length ≤ 720000 := by have := HLL.out; omega
   subst htn
   clear hm0
   have t0 : ¬ (t : Int) < t := by omega
   obtain ⟨y0, y1, y2, y3, _⟩ := id HS.out.bx
   cases na
   ·obtain ⟨g2, c2, rfl, hB2, hr2⟩ := owns_brow HS.out.own hL0 rfl
    have HF := Lib.hid (show L.reverse = (if false = true then [45] else []) ++ dec A by rw [HLR.out]; rfl)
    have HR2 := Lib.hid (show BRow wr g2 L.length (rvF L L.length 0) from hr2.congr fun j hj => by unfold rvF; rw [if_neg (by omega)])
    have HBE := Lib.hid HS.out.be
    have HG2 := Lib.hid (show w.heap.size ≤ g2 by have := HS.out.hg; omega)
    clear hB2 hr2
    obtain ⟨N, hN⟩ : ∃ N, L.length = N := ⟨_, rfl⟩
    rw [hN] at HR2 hL0 hLb ⊢
    have HN2 := Lib.hid hN
    clear hN
    obtain ⟨L2, hL2⟩ : ∃ L2, L = L2 := ⟨_, rfl⟩
    rw [hL2] at HF HR2 HN2
    clear hL2
    go_wp2
    go_loopg [8, 9] (N + 1) (fun gg v8 v9 wx => ∃ (i : Nat) (z : Int), v8 = .int .i64 i ∧ v9 = .int .i64 z ∧ z + i + 1 = N ∧ 2 * i ≤ N ∧ N - i < gg ∧ BRow wx g2 N (rvF L2 N i) ∧ Below w.heap.size w wx)
    case atStart => exact ⟨0, _, rfl, rfl, by omega, by omega, by omega, HR2.out, HBE.out⟩
    case round =>
     clear HR2 HBE HS
     obtain ⟨i, z, rfl, rfl, hz, hi2, hg, hrow, hbe⟩ := hrel
     have HG := Lib.hid hg
     have HRW := Lib.hid hrow
     have HBE := Lib.hid hbe
     clear hg hrow hbe
     by_cases hlt : (i : Int) < z
     ·obtain ⟨K, rfl⟩ : ∃ K : Nat, z = K := ⟨z.toNat, by omega⟩
      have hK : K + i + 1 = N := by omega
      have HK := Lib.hid hK
      have hiK : i < K := by omega
      have ci := HRW.out.cell i (by omega)
      have ck := HRW.out.cell K (by omega)
      have fi := HRW.out.fz i (by omega)
      have fk := HRW.out.fz K (by omega)
      rw [show rvF L2 N i i = L2.getD i 0 by unfold rvF; rw [if_neg (by omega)]] at ci
      rw [show rvF L2 N i K = L2.getD K 0 by unfold rvF; rw [if_neg (by omega)]] at ck
      obtain ⟨a, ha⟩ : ∃ a, L2.getD i 0 = a := ⟨_, rfl⟩
      obtain ⟨b, hb⟩ : ∃ b, L2.getD K 0 = b := ⟨_, rfl⟩
      rw [ha] at ci
      rw [hb] at ck
      have HA := Lib.hid ha
      have HBB := Lib.hid hb
      have i0 : (0 : Int) ≤ i := by omega
      have i1 : (i : Int) < N := by omega
      have k0 : (0 : Int) ≤ K := by omega
      have k1 : (K : Int) < N := by omega
      have HIK := Lib.hid hiK
      have hne : ¬ i = K := by omega
      have hne' : ¬ K = i := by omega
      clear ha hb hz hK hlt hiK
      go_wp2
      go_region
      all_goals (
       go_wp2
       go_roundg (N - i)
       case rel => exact ⟨i + 1, (K : Int) - 1, by go_num, rfl, by have := HK.out; omega, by have := HK.out; have := HIK.out; omega, by have := HK.out; omega, (rv_step HRW.out HK.out HIK.out HA.out HBB.out).same, ((HBE.out.setCell (p := ⟨g2, i, none⟩) HG2.out _).setCell (p := ⟨g2, K, none⟩) HG2.out _).drew⟩
       case measure => exact HG.out)
     ·have hNi : N ≤ 2 * i + 1 := by omega
      have hcb := conv_back wr g2 c2 N _ HRW.out
      rw [rv_end HN2.out hNi, HF.out] at hcb
      clear hNi
      go_wp2
      go_ret
      exact ⟨rfl, HBE.out⟩
   ·have hown2 := HS.out.own
    obtain ⟨N, hN⟩ : ∃ N, L.length + 1 = N := ⟨_, rfl⟩
    obtain ⟨L2, hL2⟩ : ∃ L2, L ++ [45] = L2 := ⟨_, rfl⟩
    have HF := Lib.hid (show L2.reverse = (if true = true then [45] else []) ++ dec A by rw [← hL2, List.reverse_append, HLR.out]; rfl)
    have HN2 := Lib.hid (show L2.length = N by rw [← hL2, List.length_append]; exact hN)
    have hNb : N ≤ 720001 := by omega
    have hN0 : 0 < N := by omega
    have HPM := Lib.hid (fun (o : Obj) (w1 : World) (v' : Value) => pr_minus (o := o) (w1 := w1) (v' := v') HS.out hL2 hN)
    have HHN := Lib.hid hN
    have HGS := Lib.hid HS.out.gs
    clear hN hL2
    go_wp2_with (at_builtin; refine wpList_append_own _ rfl _ _ 94 rfl (g + 1) 5 i0 (.int .u8 0) 1 1 Tryz.underlying94 hi hz0 hz1 hz2 rfl (by decide) _ _ _ rfl (hown2.alloc _) ⟨wr.heap.size, 0, none⟩ 1 1 [.int .u8 45] rfl rfl (cell_one_new _ _ _) (by simp [Value.oneCell']) (by unfold maxLen; omega) (by omega) (by have := HGS.out; simp; omega) ?_; intro v' w1 hown' hgrow _; obtain ⟨g2, c2, rfl, hg2, hr2, hb2⟩ := HPM.out _ _ _ hgrow hown'; have HG2 := Lib.hid hg2; have HR2 := Lib.hid hr2; have HBE := Lib.hid hb2; clear hown' hgrow hg2 hr2 hb2)
    go_loopg [8, 9] (N + 1) (fun gg v8 v9 wx => ∃ (i : Nat) (z : Int), v8 = .int .i64 i ∧ v9 = .int .i64 z ∧ z + i + 1 = N ∧ 2 * i ≤ N ∧ N - i < gg ∧ BRow wx g2 N (rvF L2 N i) ∧ Below w.heap.size w wx)
    case atStart => exact ⟨0, _, rfl, rfl, by omega, by omega, by omega, HR2.out, HBE.out⟩
    case round =>
     clear HR2 HBE HS
     obtain ⟨i, z, rfl, rfl, hz, hi2, hg, hrow, hbe⟩ := hrel
     have HG := Lib.hid hg
     have HRW := Lib.hid hrow
     have HBE := Lib.hid hbe
     clear hg hrow hbe
     by_cases hlt : (i : Int) < z
     ·obtain ⟨K, rfl⟩ : ∃ K : Nat, z = K := ⟨z.toNat, by omega⟩
      have hK : K + i + 1 = N := by omega
      have HK := Lib.hid hK
      have hiK : i < K := by omega
      have ci := HRW.out.cell i (by omega)
      have ck := HRW.out.cell K (by omega)
      have fi := HRW.out.fz i (by omega)
      have fk := HRW.out.fz K (by omega)
      rw [show rvF L2 N i i = L2.getD i 0 by unfold rvF; rw [if_neg (by omega)]] at ci
      rw [show rvF L2 N i K = L2.getD K 0 by unfold rvF; rw [if_neg (by omega)]] at ck
      obtain ⟨a, ha⟩ : ∃ a, L2.getD i 0 = a := ⟨_, rfl⟩
      obtain ⟨b, hb⟩ : ∃ b, L2.getD K 0 = b := ⟨_, rfl⟩
      rw [ha] at ci
      rw [hb] at ck
      have HA := Lib.hid ha
      have HBB := Lib.hid hb
      have i0 : (0 : Int) ≤ i := by omega
      have i1 : (i : Int) < N := by omega
      have k0 : (0 : Int) ≤ K := by omega
      have k1 : (K : Int) < N := by omega
      have HIK := Lib.hid hiK
      have hne : ¬ i = K := by omega
      have hne' : ¬ K = i := by omega
      clear ha hb hz hK hlt hiK
      go_wp2
      go_region
      all_goals (
       go_wp2
       go_roundg (N - i)
       case rel => exact ⟨i + 1, (K : Int) - 1, by go_num, rfl, by have := HK.out; omega, by have := HK.out; have := HIK.out; omega, by have := HK.out; omega, (rv_step HRW.out HK.out HIK.out HA.out HBB.out).same, ((HBE.out.setCell (p := ⟨g2, i, none⟩) HG2.out _).setCell (p := ⟨g2, K, none⟩) HG2.out _).drew⟩
       case measure => exact HG.out)
     ·have hNi : N ≤ 2 * i + 1 := by omega
      have hcb := conv_back wr g2 c2 N _ HRW.out
      rw [rv_end HN2.out hNi, HF.out] at hcb
      clear hNi
      go_wp2
      go_ret
      exact ⟨rfl, HBE.out⟩
  ·have HM0 := Lib.hid hm0
   have htn : t < n := by
    rcases Nat.lt_or_ge t n with h | h
    ·exact h
    ·have := HM.out
     rw [show n - t = 0 by omega, Nat.pow_zero] at this
     omega
   have HDP := Lib.hid (dec_pos hm0)
   clear hm0
   go_wp2
   obtain ⟨wo, rfl⟩ : ∃ wo : World, wo = wr := ⟨_, rfl⟩
   go_loopg [6, 7] (n + 1) (fun gg v6 v7 wi => ∃ i : Nat, v7 = .int .i64 i ∧ t ≤ i ∧ i ≤ n ∧ n - i < gg ∧ v6 = .int .i64 (m / 256 ^ (n - i) % 10 : Nat) ∧ PrSt w wi g n na A (fun j => if j < i then bf (m / 10) n j else bf m n j) u3 L)
   case atStart => exact ⟨t, rfl, Nat.le_refl _, by omega, by omega, by rw [Nat.div_eq_of_lt HM.out]; rfl, HS.out.congr fun j hj => (by
    by_cases e : j < t
    ·rw [if_pos e, bf_zero HM.out e (by omega), bf_zero (Nat.lt_of_le_of_lt (Nat.div_le_self _ _) HM.out) e (by omega)]
    ·rw [if_neg e])⟩
   case round =>
    obtain ⟨i, rfl, hti, hin, hg, rfl, hs⟩ := hrel
    have HG := Lib.hid hg
    have HI := Lib.hid hs
    clear hg hs
    by_cases hlt : i < n
    ·have i0 : (0 : Int) ≤ i := by omega
     have i1 : (i : Int) < n := by omega
     have hcell := HI.out.row.cell i hlt
     have hfz := HI.out.row.fz i hlt
     rw [if_neg (by omega), bf_nat] at hcell
     obtain ⟨hs1, hs2⟩ := ten_step m (n - 1 - i)
     rw [show n - 1 - i + 1 = n - i by omega] at hs1 hs2
     have hr10 : m / 256 ^ (n - i) % 10 < 10 := Nat.mod_lt _ (by decide)
     have hc256 : m / 256 ^ (n - 1 - i) % 256 < 256 := Nat.mod_lt _ (by decide)
     have hlow : m / 10 / 256 ^ (n - 1 - i) % 256 < 256 := Nat.mod_lt _ (by decide)
     have HB8 := Lib.hid (bf_nat (m / 10) n i)
     obtain ⟨r, hr⟩ : ∃ r, m / 256 ^ (n - i) % 10 = r := ⟨_, rfl⟩
     obtain ⟨c, hc⟩ : ∃ c, m / 256 ^ (n - 1 - i) % 256 = c := ⟨_, rfl⟩
     rw [hr, hc] at hs1 hs2
     rw [hr] at hr10 ⊢
     rw [hc] at hc256 hcell
     have ho := ten_or hr10 hc256
     obtain ⟨q, hq⟩ : ∃ q, r * 256 + c = q := ⟨_, rfl⟩
     rw [hq] at hs1 hs2 ho
     have hqb : q ≤ 2559 := by omega
     have hcw : wrap64 (c : Int) = c := by unfold wrap64; omega
     have HQ1 := Lib.hid hs1
     have HQ2 := Lib.hid (show q % 10 = m / 256 ^ (n - (i + 1)) % 10 by rw [hs2, show n - (i + 1) = n - 1 - i by omega])
     have hq8 : q / 10 < 256 := by rw [hs1]; exact hlow
     clear hs1 hs2 hr hc hq hlow
     go_wp2
     go_roundg (n - i)
     case rel =>
      refine ⟨i + 1, by go_num, by omega, by omega, by omega, by rw [← HQ2.out]; go_num, (HI.out.put i hlt (c := bf (m / 10) n i) (by rw [HB8.out, ← HQ1.out]; rfl)).congr fun j hj => ?_⟩
      by_cases e : j = i
      ·subst e; rw [if_pos rfl, if_pos (by omega)]
      ·rw [if_neg e]
       by_cases e2 : j < i
       ·rw [if_pos e2, if_pos (by omega)]
       ·rw [if_neg e2, if_neg (by omega)]
     case measure => exact HG.out
    ·obtain rfl : i = n := by omega
     have hr : m / 256 ^ (i - i) % 10 = m % 10 := by rw [Nat.sub_self, Nat.pow_zero, Nat.div_one]
     rw [hr]
     have HI2 := Lib.hid (HI.out.congr (h := fun j => bf (m / 10) i j) fun j hj => by rw [if_pos hj])
     have hcN : (UInt8.ofNat (48 + m % 10)).toNat = 48 + m % 10 := by rw [UInt8.toNat_ofNat']; omega
     have hr10 : m % 10 < 10 := Nat.mod_lt _ (by decide)
     have hLb : L.length + 1 ≤ 720000 := by
      have := HLL.out
      rw [HDP.out, List.length_append] at this
      simp at this; omega
     obtain ⟨r, hrr⟩ : ∃ r, m % 10 = r := ⟨_, rfl⟩
     rw [hrr] at hcN hr10 ⊢
     obtain ⟨cd, hcd⟩ : ∃ cd, UInt8.ofNat (48 + r) = cd := ⟨_, rfl⟩
     rw [hcd] at hcN
     have HCD := Lib.hid (show dec m = dec (m / 10) ++ [cd] by rw [HDP.out, hrr, hcd])
     have hcI : (48 : Int) + r = (cd.toNat : Int) := by omega
     have hcl := cd.toNat_lt
     clear hr hrr hcd hcN
     go_wp2_with (at_builtin; refine wpList_append_own _ rfl _ _ 94 rfl (g + 1) 5 i0 (.int .u8 0) 1 1 Tryz.underlying94 hi hz0 hz1 hz2 rfl (by decide) _ _ _ rfl (HI.out.own.alloc _) ⟨wr.heap.size, 0, none⟩ 1 1 [.int .u8 cd.toNat] rfl rfl (cell_one_new _ _ _) (by simp [Value.oneCell']) (by unfold maxLen; omega) (by omega) (by have := HI.out.gs; simp; omega) ?_; intro v' w1 hown' hgrow _)
     have HSA := Lib.hid (HI2.out.app (c := cd) hgrow hown')
     have HDA := Lib.hid (show dec A = dec (m / 10) ++ (L ++ [cd]).reverse by rw [HD.out, HCD.out, List.reverse_append, List.append_assoc]; rfl)
     have HDL := Lib.hid (show (L ++ [cd]).length + (dec (m / 10)).length ≤ 720000 by
      have := HLL.out
      rw [HCD.out, List.length_append] at this
      rw [List.length_append]
      simp at this ⊢
      omega)
     have HM1 := Lib.hid (show m / 10 < m by have := HM0.out; omega)
     have HM2 := Lib.hid (show m / 10 < 256 ^ (i - t) from Nat.lt_of_le_of_lt (Nat.div_le_self _ _) HM.out)
     obtain ⟨m2, hm2⟩ : ∃ m2, m / 10 = m2 := ⟨_, rfl⟩
     rw [hm2] at HSA HDA HDL HM1 HM2
     clear hm2 HI HI2 hown' hgrow hr10 hLb hcI hcl
     go_wp2
     go_loop [5] (fun v5 => ∃ t' : Nat, v5 = .int .i64 t' ∧ t' ≤ i ∧ Hid (m2 < 256 ^ (i - t'))) (fun v5 => i - (intOf v5).toNat)
     case atStart => exact ⟨t, rfl, by omega, HM2⟩
     case round =>
      obtain ⟨t', rfl, ht', HMT'⟩ := hrel
      by_cases hlt : t' < i
      ·have hcell := HSA.out.row.cell t' hlt
       have hfz := HSA.out.row.fz t' hlt
       have i0' : (0 : Int) ≤ t' := by omega
       have i1' : (t' : Int) < i := by omega
       by_cases hb0 : bf m2 i t' = 0
       ·have tb : (((bf m2 i t').toNat : Int) == 0) = true := by rw [hb0]; rfl
        have HN := Lib.hid (show m2 < 256 ^ (i - (t' + 1)) by
         have h1 := bf_nat m2 i t'
         rw [hb0] at h1
         have h2 : m2 / 256 ^ (i - 1 - t') < 256 := by
          rw [Nat.div_lt_iff_lt_mul (Nat.pow_pos (by decide)), Nat.mul_comm, ← Nat.pow_succ, show (i - 1 - t').succ = i - t' by omega]
          exact HMT'.out
         have h3 : (0 : UInt8).toNat = 0 := rfl
         rw [h3, Nat.mod_eq_of_lt h2] at h1
         rw [show i - (t' + 1) = i - 1 - t' by omega]
         exact (Nat.div_eq_zero_iff.1 h1.symm).resolve_left (by have := Nat.pow_pos (n := i - 1 - t') (show 0 < 256 by decide); omega))
        clear hb0
        go_wp2
        go_round
        case rel => exact ⟨t' + 1, by go_num, by omega, HN⟩
        case measure => simp [intOf]; omega
       ·have tb : (((bf m2 i t').toNat : Int) == 0) = false := by
         rw [beq_eq_false_iff_ne]
         intro h
         exact hb0 (UInt8.toNat_inj.mp (by have : (0 : UInt8).toNat = 0 := rfl; omega))
        have HZ := Lib.hid (show m2 = 0 → t' = i from fun h => (hb0 (by
         apply UInt8.toNat_inj.mp
         rw [bf_nat, h, Nat.zero_div]; rfl)).elim)
        clear hb0
        go_wp2
        go_roundg m
        case rel => exact ⟨m2, t', L ++ [cd], rfl, ht', HM1.out, HMT'.out, HZ.out, HDA.out, HDL.out, HSA.out⟩
        case measure => exact HGG.out
      ·obtain rfl : t' = i := by omega
       go_wp2
       go_roundg m
       case rel => exact ⟨m2, t', L ++ [cd], rfl, Nat.le_refl _, HM1.out, HMT'.out, fun _ => rfl, HDA.out, HDL.out, HSA.out⟩
       case measure => exact HGG.out
theorem rPrint_zero (na : Bool) (sa : ByteArray) (w : World) (ha : sa.size ≤ 90000) (h0 : bv sa.data.toList = 0) :
  Calls Tryz.prog 65 #[.agg #[.bool na, .string sa]] w fun e w' => e = .returned (.string ⟨#[48]⟩) ∧ Below w.heap.size w w' := by
 have HCn := Lib.hid (fun X => show Calls Tryz.prog 73 #[.agg #[.bool na, .string sa]] X (fun e w' => e = .returned (.agg #[.bool false, .string ⟨#[]⟩]) ∧ Below X.heap.size X w') from by
  have := rcanon_any na sa X (by omega)
  unfold RetI at this
  have hz : iv na sa = 0 := by unfold iv; rw [h0]; cases na <;> rfl
  rwa [hz, sgn_zero, Int.natAbs_zero, mg_zero] at this)
 clear h0 ha
 have HL0 := Lib.hid ((Below.refl w.heap.size w).alloc (Nat.le_refl _) (.cells #[.bool na, .string sa] 23))
 have HB0 := Lib.hid (Bx.new w w.heap.size na sa rfl)
 go_enter Tryz.func65, Tryz.ntmps65
 obtain ⟨x0, x1, x2, x3, _⟩ := id HB0.out
 go_wp2_with (go_at_call 73; refine (HCn.out _).mono ?_; rintro e W1 ⟨rfl, hb⟩; have HL1 := Lib.hid (bstep HL0.out hb); have HX1 := Lib.hid (HB0.out.below hb); clear hb x0 x1 x2 x3; obtain ⟨x0, x1, x2, x3, _⟩ := id HX1.out)
 go_ret
 exact ⟨rfl, (HL1.out.setCell (p := ⟨w.heap.size, 0, none⟩) (Nat.le_refl _) _).setCell (p := ⟨w.heap.size, 1, none⟩) (Nat.le_refl _) _⟩
theorem rPrint_any (na : Bool) (sa : ByteArray) (w : World) (ha : sa.size ≤ 90000) :
  Calls Tryz.prog 65 #[.agg #[.bool na, .string sa]] w fun e w' => e = .returned (.string ⟨(prT na (bv sa.data.toList)).toArray⟩) ∧ Below w.heap.size w w' := by
 unfold prT
 split
 ·rename_i h
  exact rPrint_zero na sa w ha h
 ·rename_i h
  exact rPrint_pos na sa w ha (by omega)
end Go.Proofs.Gv
