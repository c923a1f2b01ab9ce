/- grooveref38: checkLengths, cost, Cost. -/
import Derived.Test.YtghjjfknlnegpaaGreatMtr
import Derived.Test.YtghjjfknlnegpaaGreatHctnP
import Derived.Test.YtghjjfknlnegpaaGreatFront
import Derived.Test.YtghjjfknlnegpaaGreatHlscP
set_option linter.unusedSimpArgs false
set_option linter.unusedVariables false
namespace Go.Proofs.Gv
open Go Go.RowKit Go.Maps

theorem Clm.cellM {m : Nat} {W B : World} (hm : W.heap.size ≤ m) (hB : Below W.heap.size W B) (u : Clm m B) {p : Addr} {v : Value} (h : W.cell? p = some v) : u.x.cell? p = some v :=
  (u.h.cell (Nat.lt_of_lt_of_le (World.block_lt_of_cell? _ _ h) hm)).trans ((hB.cell (World.block_lt_of_cell? _ _ h)).trans h)
theorem rOfM {d : Nat} (hd : d < 2 ^ 62) (W : World) : Calls Tryz.prog 62 #[.int .i64 (d : Int)] W fun e w' => e = .returned (.agg #[.bool false, .string (mg d)]) ∧ Below W.heap.size W w' := by
  have := rOf_any (d : Int) W (by omega) (by omega)
  unfold RetI at this
  rwa [Int.natAbs_natCast, show sgn (d : Int) = false from decide_eq_false (by omega)] at this
theorem rMulM {x d N M : Nat} (hx : x < 2 ^ N) (hd : d < 2 ^ M) (hN : N ≤ 100000) (hM : M ≤ 100000) (W : World) :
    Calls Tryz.prog 85 #[.agg #[.bool false, .string (mg x)], .agg #[.bool false, .string (mg d)]] W fun e w' => e = .returned (.agg #[.bool false, .string (mg (x * d))]) ∧ Below W.heap.size W w' := by
  have key : ∀ (z K : Nat), z < 2 ^ K → K ≤ 100000 → (mg z).size ≤ 100000 := fun z K h hK =>
    Nat.le_trans (size_mg (n := z) (k := K) (Nat.lt_of_lt_of_le h (Nat.pow_le_pow_left (by decide) K))) hK
  have := rMul_any false false (mg x) (mg d) (x : Int) (d : Int) W (VN_rp (N := N) hx (by omega)) (VN_rp (N := M) hd (by omega)) (key x N hx hN) (key d M hd hM)
  unfold RetI at this
  rwa [show (x : Int) * (d : Int) = ((x * d : Nat) : Int) by simp, Int.natAbs_natCast, show sgn ((x * d : Nat) : Int) = false from decide_eq_false (by omega)] at this
end Go.Proofs.Gv

namespace Go.Proofs.Gv
open Go Go.RowKit Go.Maps

theorem ord_ins {R : List Nat} {k m x : Nat} (h : k + m = R.length) : (R.take m ++ x :: R.drop m).reverse = R.reverse.take k ++ [x] ++ R.reverse.drop k := by
  rw [List.reverse_append, List.reverse_cons]
  have e1 : R.reverse.take k = (R.drop m).reverse := by
    rw [List.take_reverse]; congr 1; congr 1; omega
  have e2 : R.reverse.drop k = (R.take m).reverse := by
    rw [List.drop_reverse]; congr 1; congr 1; omega
  rw [e1, e2]
theorem addrM (b o k : Nat) : (⟨b, o, none⟩ : Addr).add k = ⟨b, o + k, none⟩ := by unfold Addr.add; split <;> simp_all
theorem natV_app (a b : List Nat) : natV (a ++ b) = natV a ++ natV b := by unfold natV; exact List.map_append ..
theorem natV_tk (a : List Nat) (k : Nat) : natV (a.take k) = (natV a).take k := by unfold natV; exact List.map_take
theorem natV_dp (a : List Nat) (k : Nat) : natV (a.drop k) = (natV a).drop k := by unfold natV; exact List.map_drop
theorem natV_one (a : List Nat) : ∀ u ∈ natV a, u.oneCell' = true := fun u h => by
  obtain ⟨d, -, rfl⟩ := List.mem_map.1 h; rfl
theorem rev_at {R : List Nat} {i m : Nat} (h : i + m + 1 = R.length) : R.reverse[i]? = R[m]? := by
  rw [List.getElem?_reverse (by omega)]; congr 1; omega
set_option maxRecDepth 100000 in
set_option maxHeartbeats 8000000 in
theorem rorder_any (A : Addr) (cap : Nat) (Ws : List Nat) (h1 : 1 ≤ Ws.length) (h12 : Ws.length ≤ 64) (hz : ∀ z ∈ Ws, z < 2 ^ 64) (w : World) (hS : Sl w (some A) (VL Ws)) :
    Calls Tryz.prog 79 #[.slice (some A) Ws.length cap] w fun e w' => ∃ g c, e = .returned (.slice (some ⟨g, 0, none⟩) Ws.length c) ∧ Ws.length ≤ c ∧ c ≤ maxLen ∧ w.heap.size ≤ g ∧ BC w' g (natV (ordL Ws)) ∧ Below w.heap.size w w' := by
  have HS := Lib.hid hS
  have HZ := Lib.hid hz
  obtain ⟨n, hn⟩ : ∃ n, Ws.length = n := ⟨_, rfl⟩
  have HN := Lib.hid hn
  rw [hn] at h1 h12 ⊢
  clear hS hz hn
  obtain ⟨W, hW⟩ : ∃ f, (Ws.getD · 0) = f := ⟨_, rfl⟩
  have HW := Lib.hid hW
  have HOL := Lib.hid (show ordL Ws = (ordR W n).reverse from by unfold ordL; rw [hW, HN.out])
  clear hW
  obtain ⟨i1, hi1, hy0, hy1, hy2⟩ := info_parts infoN
  go_enter Tryz.func79, Tryz.ntmps79
  go_wp2_with fail
  have hb0 : BC (w.alloc (.cells #[] 3)) w.heap.size (natV (ordR W 0).reverse) := BC.new w w.heap.size #[] 3 rfl
  go_loopg [3, 4] (n + 1) (fun gg v3 v4 wr => ∃ i go co : Nat, v3 = .slice (some ⟨go, 0, none⟩) i co ∧ v4 = .int .i64 (i : Int) ∧ i ≤ n ∧ n - i < gg ∧ i ≤ co ∧ co ≤ maxLen ∧ w.heap.size ≤ go ∧ BC wr go (natV (ordR W i).reverse) ∧ Below w.heap.size w wr)
  case atStart => exact ⟨0, w.heap.size, 0, rfl, rfl, Nat.zero_le _, by omega, Nat.le_refl _, Nat.zero_le _, Nat.le_refl _, hb0, (Below.refl _ _).alloc (Nat.le_refl _) _⟩
  case round =>
    obtain ⟨i, go, co, rfl, rfl, hi, hig, hc1, hc2, hgo, hbo, hb⟩ := hrel
    have HIG := Lib.hid hig
    have HBO := Lib.hid hbo
    have HB := Lib.hid hb
    have HGO := Lib.hid hgo
    clear hb0 hig hbo hb hgo
    by_cases hlt : i < n
    · have hltI : (i : Int) < (n : Int) := by omega
      obtain ⟨x, hx⟩ : ∃ x, Ws[i]? = some x := ⟨Ws[i]'(by rw [HN.out]; exact hlt), List.getElem?_eq_getElem _⟩
      have HX := Lib.hid (show W i = x from by rw [← HW.out]; show Ws.getD i 0 = x; rw [List.getD_eq_getElem?_getD, hx]; rfl)
      have hxb := HZ.out x (List.mem_of_getElem? hx)
      obtain ⟨V, rfl⟩ : ∃ X, X = wr := ⟨_, rfl⟩
      obtain ⟨A', eA, x0, x1⟩ := (HS.out.below HB.out) i false (mg x) (by unfold VL; rw [List.getElem?_map, hx]; rfl)
      cases eA
      have HX0 := Lib.hid (And.intro x0 x1)
      have hRl := ordR_len W i
      clear hx x0 x1
      go_upto_block 2 with fail
      go_cut [5] (fun v5 wx => ∃ k m : Nat, v5 = .int .i64 (k : Int) ∧ k + m = i ∧ insR W i (ordR W i) = (ordR W i).take m ++ i :: (ordR W i).drop m ∧ Below V.heap.size V wx)
      case first =>
        go_wp2_with fail
        go_loopg [5] (i + 1) (fun gg v5 wq => ∃ k m : Nat, v5 = .int .i64 (k : Int) ∧ k + m = i ∧ k < gg ∧ (∀ j y, j < m → (ordR W i)[j]? = some y → W y < W i) ∧ Below V.heap.size V wq)
        case atStart => exact ⟨i, 0, rfl, rfl, by omega, fun j y h => by omega, Below.refl _ _⟩
        case round =>
          obtain ⟨k, m, rfl, hkm, hkg, hall, hkb⟩ := hrel
          have HKG := Lib.hid hkg
          have HALL := Lib.hid hall
          have HKB := Lib.hid hkb
          clear hkg hall hkb
          have hki : (k : Int) ≤ (i : Int) := by omega
          by_cases hk0 : 0 < k
          · have hk0I : (0 : Int) < (k : Int) := by omega
            obtain ⟨r, hr⟩ : ∃ r, k - 1 = r := ⟨_, rfl⟩
            have hrI : (k : Int) - 1 = (r : Int) := by omega
            have hriI : (r : Int) < (i : Int) := by omega
            have hRm : (ordR W i).reverse[r]? = (ordR W i)[m]? := rev_at (by rw [hRl]; omega)
            obtain ⟨y, hy⟩ : ∃ y, (ordR W i)[m]? = some y := ⟨(ordR W i)[m]'(by rw [hRl]; omega), List.getElem?_eq_getElem _⟩
            have hyi : y < i := (ordR_mem W y i).1 (List.mem_of_getElem? hy)
            have hynI : (y : Int) < (n : Int) := by omega
            obtain ⟨u, hu⟩ : ∃ u, Ws[y]? = some u := ⟨Ws[y]'(by rw [HN.out]; omega), List.getElem?_eq_getElem _⟩
            have HU := Lib.hid (show W y = u from by rw [← HW.out]; show Ws.getD y 0 = u; rw [List.getD_eq_getElem?_getD, hu]; rfl)
            have hub := HZ.out u (List.mem_of_getElem? hu)
            have HRM := Lib.hid hy
            have hBw : Below w.heap.size w wr := bstep HB.out HKB.out
            obtain ⟨A', eA, u0, u1⟩ := (HS.out.below hBw) y false (mg u) (by unfold VL; rw [List.getElem?_map, hu]; rfl)
            cases eA
            have x0 := (HKB.out.cell (World.block_lt_of_cell? _ _ HX0.out.1)).trans HX0.out.1
            have x1 := (HKB.out.cell (World.block_lt_of_cell? _ _ HX0.out.2)).trans HX0.out.2
            have c0 := (HBO.out.below HKB.out).at r _ (natV_is (hRm.trans hy))
            have k0 : ∀ u' : Cl wr, u'.x.cell? (A.add (i * 2)) = some (.bool false) := fun u' => (u'.h.cell (World.block_lt_of_cell? _ _ x0)).trans x0
            have k1 : ∀ u' : Cl wr, u'.x.cell? ⟨(A.add (i * 2)).block, (A.add (i * 2)).off + 1, none⟩ = some (.string (mg x)) := fun u' => by rw [addr_next]; exact (u'.h.cell (World.block_lt_of_cell? _ _ x1)).trans x1
            have l0 : ∀ u' : Cl wr, u'.x.cell? (A.add (y * 2)) = some (.bool false) := fun u' => (u'.h.cell (World.block_lt_of_cell? _ _ u0)).trans u0
            have l1 : ∀ u' : Cl wr, u'.x.cell? ⟨(A.add (y * 2)).block, (A.add (y * 2)).off + 1, none⟩ = some (.string (mg u)) := fun u' => by rw [addr_next]; exact (u'.h.cell (World.block_lt_of_cell? _ _ u1)).trans u1
            have b0 : ∀ u' : Cl wr, u'.x.cell? ⟨go, r, none⟩ = some (.int .i64 (y : Int)) := fun u' => (u'.h.cell (World.block_lt_of_cell? _ _ c0)).trans c0
            have HCP := Lib.hid (fun X => rCmpN (x := u) (d := x) 64 64 hub hxb (by decide) (by decide) X)
            obtain ⟨q, hq⟩ : ∃ q, cmpI (u : Int) (x : Int) = q := ⟨_, rfl⟩
            rw [hq] at HCP
            have HQ := Lib.hid (show q < 0 ↔ W y < W i from by
              rw [HU.out, HX.out, ← hq]
              rcases cmpI_cases (u : Int) (x : Int) with ⟨h1, h2, -⟩ | ⟨h1, h2, -⟩ | ⟨h1, h2, -⟩ <;> rw [h2] <;> constructor <;> intro <;> omega)
            haveI := cls_some wr
            clear hq hu hy hRm hub hBw u0 u1 x0 x1 c0 hr
            go_wp2_with fail
            refine wp_region_cls (by kernel_rfl) ?_
            iterate 15 (go_big_quiet_step (fail))
            go_big_quiet_step ((go_at_call 51; exact quiet_cls HCP.out _))
            iterate 2 (go_big_quiet_step (fail))
            refine wpQuiet_nil ?_
            intro w7 hw7
            obtain ⟨u7, rfl⟩ := hw7
            have HB7 := Lib.hid (bstep HKB.out u7.h)
            clear k0 k1 l0 l1 b0 this
            by_cases hq0 : q < 0
            · have HAL := Lib.hid (show ∀ j y, j < m + 1 → (ordR W i)[j]? = some y → W y < W i from fun j y' hj hy' => by
                rcases Nat.lt_or_ge j m with h | h
                · exact HALL.out j y' h hy'
                · obtain rfl : j = m := by omega
                  rw [HRM.out] at hy'
                  cases hy'
                  exact HQ.out.1 hq0)
              go_wp2_with fail
              go_roundg k
              case measure => have := HKG.out; omega
              case rel => exact ⟨r, m + 1, by go_num, by omega, by omega, HAL.out, HB7.out⟩
            · have hqB : decide (q < 0) = false := by simpa using hq0
              have HINS := Lib.hid (show insR W i (ordR W i) = (ordR W i).take m ++ i :: (ordR W i).drop m from insR_at _ m (by rw [hRl]; omega) HALL.out (fun y' hy' => by rw [HRM.out] at hy'; cases hy'; exact fun h => hq0 (HQ.out.2 h)))
              go_wp2_with fail
              go_meet
              exact ⟨k, m, rfl, hkm, HINS.out, HB7.out⟩
          · obtain rfl : k = 0 := by omega
            have HINS := Lib.hid (show insR W i (ordR W i) = (ordR W i).take m ++ i :: (ordR W i).drop m from insR_at _ m (by rw [hRl]; omega) HALL.out (fun y' hy' => by have := (List.getElem?_eq_some_iff.1 hy').1; rw [hRl] at this; omega))
            haveI := cls_some wr
            go_wp2_with fail
            refine wp_region_cls (by kernel_rfl) ?_
            iterate 18 (go_big_quiet_step (fail))
            refine wpQuiet_nil ?_
            intro w7 hw7
            obtain ⟨u7, rfl⟩ := hw7
            have HB7 := Lib.hid (bstep HKB.out u7.h)
            clear this
            go_wp2_with fail
            go_meet
            exact ⟨0, m, rfl, hkm, HINS.out, HB7.out⟩
      case rest =>
        obtain ⟨k, m, rfl, hkm, hins, hbx⟩ := hcut
        rename World => Wx
        have HBX := Lib.hid hbx
        have HOX := Lib.hid (HBO.out.below hbx)
        have HWX := Lib.hid (bstep HB.out hbx)
        have HEQ := Lib.hid (show (ordR W (i + 1)).reverse = (ordR W i).reverse.take k ++ [i] ++ (ordR W i).reverse.drop k from by
          show (insR W i (ordR W i)).reverse = _
          rw [hins, ord_ins (by rw [hRl]; omega)])
        obtain ⟨O, hO⟩ : ∃ O, (ordR W i).reverse = O := ⟨_, rfl⟩
        rw [hO] at HOX HEQ
        have hOl : O.length = i := by rw [← hO, List.length_reverse, hRl]
        have HOL2 := Lib.hid hOl
        have hki : k ≤ i := by omega
        have hkI : (k : Int) ≤ (i : Int) := by omega
        have hk0I : (0 : Int) ≤ (k : Int) := by omega
        have hicI : (i : Int) ≤ (co : Int) := by omega
        have hkcI : (k : Int) ≤ (co : Int) := by omega
        have hi64 : i ≤ 64 := by omega
        have hgoX := HOX.out.lt
        have HO1 := Lib.hid (show (Wx.alloc (.cells #[] 3)).ownsRow Wx.heap.size 3 1 (.slice (some ⟨Wx.heap.size, 0, none⟩) 0 0) 0 [] from World.ownsRow_made Wx #[] 0 (Nat.le_refl _) (Nat.zero_le _) rfl)
        have HT1 := Lib.hid (show ∀ W', Wx.grownBy W' none → ∀ j u, (natV (O.take k))[j]? = some u → W'.cell? ((⟨go, 0, none⟩ : Addr).add j) = some u from fun W' hg j u hj => by
          rw [addr0]
          rw [natV_tk, List.getElem?_take] at hj
          split at hj
          · exact ((grown_below hg).cell (p := ⟨go, j, none⟩) hgoX).trans (HOX.out.at j u hj)
          · cases hj)
        have HT2 := Lib.hid (show ∀ W' row, Wx.grownBy W' row → row ≠ some go → ∀ j u, (natV (O.drop k))[j]? = some u → W'.cell? ⟨go, k + j, none⟩ = some u from fun W' row hg hne j u hj => by
          rw [natV_dp, List.getElem?_drop] at hj
          exact (World.cell?_of_block (hg.block go hgoX (fun e => hne e.symm))).trans (HOX.out.at (k + j) u hj))
        have HGX := Lib.hid hgoX
        clear hins hbx hO hOl hgoX
        by_cases hck : co = k
        · have hck2 : k = co := hck.symm
          clear hck
          subst hck2
          have hik : k = i := by omega
          subst hik
          clear hlt
          go_wp2_with (at_builtin; first
            | (refine wpList_append_own _ rfl _ _ 24 rfl Wx.heap.size 3 i1 (.int .i64 0) 1 8 Tryz.underlying24 hi1 hy0 hy1 hy2 rfl (by decide) (.slice (some ⟨Wx.heap.size, 0, none⟩) 0 0) 0 [] rfl HO1.out ⟨go, 0, none⟩ k k (natV (O.take k)) rfl (by rw [natV_length, List.length_take, HOL2.out, Nat.mul_one, Nat.min_eq_left hki]) (HT1.out _ (World.grownBy_alloc Wx _ none)) (natV_one _) (by unfold maxLen; omega) (by omega) (by simp) ?_; intro v1 w1 hown1 hgrow1 _; have HA1 := Lib.hid hown1; have HG1 := Lib.hid hgrow1; clear hown1 hgrow1)
            | (refine wpList_append_own _ rfl _ _ 24 rfl Wx.heap.size 3 i1 (.int .i64 0) 1 8 Tryz.underlying24 hi1 hy0 hy1 hy2 rfl (by decide) v1 (0 + k) ([] ++ natV (O.take k)) rfl (HA1.out.alloc (.cells #[.int .i64 (k : Int)] 3)) ⟨w1.heap.size, 0, none⟩ 1 1 [.int .i64 (k : Int)] rfl rfl (cells_newM w1 _ _) (by simp [Value.oneCell']) (by unfold maxLen; omega) (by omega) (by have := HG1.out.size; simp at *; omega) ?_; intro v2 w2 hown2 hgrow2 _; have HA2 := Lib.hid hown2; have HG2 := Lib.hid hgrow2; clear hown2 hgrow2)
            | (refine wpList_append_own _ rfl _ _ 24 rfl Wx.heap.size 3 i1 (.int .i64 0) 1 8 Tryz.underlying24 hi1 hy0 hy1 hy2 rfl (by decide) v2 (0 + k + 1) ([] ++ natV (O.take k) ++ [.int .i64 (k : Int)]) rfl HA2.out ⟨go, 0, none⟩ 0 0 (natV (O.drop k)) rfl (by rw [natV_length, List.length_drop, HOL2.out, Nat.sub_self]) (fun j u hj => by have hl := (List.getElem?_eq_some_iff.1 hj).1; rw [natV_length, List.length_drop, HOL2.out] at hl; omega) (natV_one _) (by unfold maxLen; omega) (by omega) (by have := HG1.out.size; have := HG2.out.size; simp at *; omega) ?_; intro v3 w3 hown3 hgrow3 _; have HA3 := Lib.hid hown3; have HG3 := Lib.hid hgrow3; clear hown3 hgrow3))
          have hg1 := HG1.out
          have hg2 := HG2.out
          have hg3 := HG3.out
          have ha3 := HA3.out
          rw [show 0 + k + 1 + 0 = k + 1 by omega] at ha3
          obtain ⟨g3, c3, rfl, hb3, hl3⟩ := ha3.form (by omega)
          have HB3 := Lib.hid (show Below w.heap.size w w3 from (((HWX.out.alloc HWX.out.size (.cells #[] 3)).grown hg1 (by have := HWX.out.size; simp; omega) (fun k e => by rw [← show Wx.heap.size = k from by simpa [Value.ownBlock] using e]; exact HWX.out.size)).alloc (by have := HWX.out.size; have := hg1.size; simp at this; omega) (.cells #[.int .i64 (k : Int)] 3)).grown hg2 (by have := HWX.out.size; have := hg1.size; simp at *; omega) (fun k e => Nat.le_trans HWX.out.size (own_base HA1.out e).1) |>.grown hg3 (by have := HWX.out.size; have := hg1.size; have := hg2.size; simp at *; omega) (fun k e => Nat.le_trans HWX.out.size (own_base HA2.out e).1))
          have HC3 := Lib.hid (own_capM ha3)
          have HE3 := Lib.hid (show BC w3 g3 (natV (ordR W (k + 1)).reverse) from by
            have h := BC.of_ownM ha3
            rw [HEQ.out, natV_app, natV_app]
            exact h)
          have HG3b := Lib.hid (show w.heap.size ≤ g3 from Nat.le_trans HWX.out.size hb3)
          clear hg1 hg2 hg3 ha3 hb3 hl3
          go_roundg (n - k)
          case measure => have := HIG.out; omega
          case rel => exact ⟨k + 1, g3, c3, rfl, by go_num, by omega, by omega, HC3.out.1, HC3.out.2, HG3b.out, HE3.out, HB3.out⟩
        · have hckB : ¬ co = k := hck
          go_wp2_with (at_builtin; first
            | (refine wpList_append_own _ rfl _ _ 24 rfl Wx.heap.size 3 i1 (.int .i64 0) 1 8 Tryz.underlying24 hi1 hy0 hy1 hy2 rfl (by decide) (.slice (some ⟨Wx.heap.size, 0, none⟩) 0 0) 0 [] rfl HO1.out ⟨go, 0, none⟩ k co (natV (O.take k)) rfl (by rw [natV_length, List.length_take, HOL2.out, Nat.mul_one, Nat.min_eq_left hki]) (HT1.out _ (World.grownBy_alloc Wx _ none)) (natV_one _) (by unfold maxLen; omega) (by omega) (by simp) ?_; intro v1 w1 hown1 hgrow1 _; have HA1 := Lib.hid hown1; have HG1 := Lib.hid hgrow1; clear hown1 hgrow1)
            | (refine wpList_append_own _ rfl _ _ 24 rfl Wx.heap.size 3 i1 (.int .i64 0) 1 8 Tryz.underlying24 hi1 hy0 hy1 hy2 rfl (by decide) v1 (0 + k) ([] ++ natV (O.take k)) rfl (HA1.out.alloc (.cells #[.int .i64 (i : Int)] 3)) ⟨w1.heap.size, 0, none⟩ 1 1 [.int .i64 (i : Int)] rfl rfl (cells_newM w1 _ _) (by simp [Value.oneCell']) (by unfold maxLen; omega) (by omega) (by have := HG1.out.size; simp at *; omega) ?_; intro v2 w2 hown2 hgrow2 _; have HA2 := Lib.hid hown2; have HG2 := Lib.hid hgrow2; clear hown2 hgrow2)
            | (refine wpList_append_own _ rfl _ _ 24 rfl Wx.heap.size 3 i1 (.int .i64 0) 1 8 Tryz.underlying24 hi1 hy0 hy1 hy2 rfl (by decide) v2 (0 + k + 1) ([] ++ natV (O.take k) ++ [.int .i64 (i : Int)]) rfl HA2.out ⟨go, k, none⟩ (i - k) (co - k) (natV (O.drop k)) rfl (by rw [natV_length, List.length_drop, HOL2.out, Nat.mul_one]) (fun j u hj => by rw [addrM]; exact HT2.out _ _ (((World.grownBy_alloc Wx _ none).andThen HG1.out (fun k e => .inl (by have e2 : Wx.heap.size = k := (by simpa [Value.ownBlock] using e); omega))).andThen (World.grownBy_alloc w1 _ none) (fun k e => by cases e) |>.andThen HG2.out (fun k e => .inl (own_base HA1.out e).1)) (by simp) j u hj) (natV_one _) (by unfold maxLen; omega) (by omega) (by have := HG1.out.size; have := HG2.out.size; simp at *; omega) ?_; intro v3 w3 hown3 hgrow3 _; have HA3 := Lib.hid hown3; have HG3 := Lib.hid hgrow3; clear hown3 hgrow3))
          have hg1 := HG1.out
          have hg2 := HG2.out
          have hg3 := HG3.out
          have ha3 := HA3.out
          rw [show 0 + k + 1 + (i - k) = i + 1 by omega] at ha3
          obtain ⟨g3, c3, rfl, hb3, hl3⟩ := ha3.form (by omega)
          have HB3 := Lib.hid (show Below w.heap.size w w3 from (((HWX.out.alloc HWX.out.size (.cells #[] 3)).grown hg1 (by have := HWX.out.size; simp; omega) (fun k e => by rw [← show Wx.heap.size = k from by simpa [Value.ownBlock] using e]; exact HWX.out.size)).alloc (by have := HWX.out.size; have := hg1.size; simp at this; omega) (.cells #[.int .i64 (i : Int)] 3)).grown hg2 (by have := HWX.out.size; have := hg1.size; simp at *; omega) (fun k e => Nat.le_trans HWX.out.size (own_base HA1.out e).1) |>.grown hg3 (by have := HWX.out.size; have := hg1.size; have := hg2.size; simp at *; omega) (fun k e => Nat.le_trans HWX.out.size (own_base HA2.out e).1))
          have HC3 := Lib.hid (own_capM ha3)
          have HE3 := Lib.hid (show BC w3 g3 (natV (ordR W (i + 1)).reverse) from by
            have h := BC.of_ownM ha3
            rw [HEQ.out, natV_app, natV_app]
            exact h)
          have HG3b := Lib.hid (show w.heap.size ≤ g3 from Nat.le_trans HWX.out.size hb3)
          clear hg1 hg2 hg3 ha3 hb3 hl3
          go_roundg (n - i)
          case measure => have := HIG.out; omega
          case rel => exact ⟨i + 1, g3, c3, rfl, by go_num, by omega, by omega, HC3.out.1, HC3.out.2, HG3b.out, HE3.out, HB3.out⟩
    · obtain rfl : i = n := by omega
      have hB : decide ((i : Int) < (i : Int)) = false := by simp
      go_wp2_with fail
      go_ret
      exact ⟨go, co, rfl, hc1, hc2, HGO.out, by rw [HOL.out]; exact HBO.out, HB.out⟩
end Go.Proofs.Gv
