/- Stable sorting of a few numbers. -/
import Derived.Test.YtglgiofjgfbfgaaHordP
import Derived.Test.YtglgiofjgfbfgaaHmeqP
import Derived.Test.YtglgiofjgfbfgaaLtabP
set_option linter.unusedSimpArgs false
set_option linter.unusedVariables false
namespace Go.Proofs.Gv
open Go Go.RowKit Go.Maps

theorem swap_list (A D : List Nat) (x y : Nat) : ((natV (A ++ y :: x :: D)).set (A.length + 1) (.int .i64 (y : Int))).set A.length (.int .i64 (x : Int)) = natV (A ++ x :: y :: D) := by
  unfold natV
  rw [List.map_append, List.map_append, List.set_append, if_neg (by rw [List.length_map]; omega), List.length_map, Nat.add_sub_cancel_left, List.set_append, if_neg (by rw [List.length_map]; omega), List.length_map, Nat.sub_self]
  rfl
theorem quiet_cB {w W : World} {f : Nat} {args : Array Value} {v : Value} (hW : Below w.heap.size w W) (h : ∀ X, Below w.heap.size w X → Calls Try.prog f args X fun e w' => e = .returned v ∧ Below X.heap.size X w') (u : Cl W) :
    Calls Try.prog f args u.x fun e w'' => e = .returned v ∧ ∃ u' : Cl W, w'' = u'.x :=
  (h u.x (bstep hW u.h)).mono fun _ w' ⟨he, hb⟩ => ⟨he, ⟨⟨w', bstep u.h hb⟩, rfl⟩⟩
section
variable (g f n : Nat) (lb : Array Value) (W : Nat → Nat) (c : Nat → Nat → Int) (hn1 : 1 ≤ n) (hn : n ≤ 12) (w : World)
  (eg : ∀ args X, (callFunc f args).run Try.prog X = .ok (.enter f args) X)
  (hc : ∀ x y, c x y < 0 ↔ W y < W x)
  (hcl : ∀ X x y, x < n → y < n → w.grownBy X (some g) → Calls Try.prog f (#[.int .i64 (x : Int), .int .i64 (y : Int)] ++ lb) X fun e w' => e = .returned (.int .i64 (c x y)) ∧ Below X.heap.size X w')
  (hb : BC w g (natV (List.range n)))
include hn1 hn eg hc hcl hb
set_option maxRecDepth 100000 in
set_option maxHeartbeats 4000000 in
theorem isort_any : Calls Try.prog 132 #[.slice (some ⟨g, 0, none⟩) n n, .int .i64 0, .int .i64 n, .func (.func f) #[] lb] w fun e w' =>
    e = .returned (.tuple #[]) ∧ BC w' g (natV (ordR W n).reverse) ∧ w.grownBy w' (some g) := by
  have HC := Lib.hid hc
  have HCL := Lib.hid hcl
  have HB := Lib.hid hb
  clear hc hcl hb
  go_enter Try.func132, Try.ntmps132
  go_wp2_with fail
  go_loopg [8] (n + 1) (fun gg v8 wr => ∃ i : Nat, v8 = .int .i64 (i : Int) ∧ 1 ≤ i ∧ i ≤ n ∧ n - i < gg ∧ BC wr g (natV (outSt W n i)) ∧ w.grownBy wr (some g))
  case atStart => exact ⟨1, rfl, Nat.le_refl _, hn1, by omega, by rw [out_start W hn1]; exact HB.out, ⟨rfl, rfl, rfl, Nat.le_refl _, fun _ _ _ => rfl⟩⟩
  case round =>
    obtain ⟨i, rfl, hi1, hi, hig, hb, hgw⟩ := hrel
    clear HB
    have HG := Lib.hid hig
    have HB := Lib.hid hb
    have HGW := Lib.hid hgw
    clear hig hb hgw
    by_cases hlt : i < n
    · have hltI : (i : Int) < n := by omega
      go_wp2_with fail
      go_loopg [9] (n + 1) (fun gg v9 wq => ∃ j m : Nat, v9 = .int .i64 (j : Int) ∧ j + m = i ∧ j < gg ∧ BC wq g (natV (insSt W n i m)) ∧ w.grownBy wq (some g) ∧ ∀ t y, t < m → (ordR W i)[t]? = some y → W y < W i)
      case atStart => exact ⟨i, 0, rfl, rfl, by omega, by rw [← out_ins W hlt]; exact HB.out, HGW.out, fun t y h => by omega⟩
      case round =>
        obtain ⟨j, m, rfl, hjm, hjg, hb, hgw, hall⟩ := hrel
        clear HB HGW
        have HJG := Lib.hid hjg
        have HB := Lib.hid hb
        have HGW := Lib.hid hgw
        have HALL := Lib.hid hall
        have HJM := Lib.hid hjm
        have hj12 : j ≤ 12 := by omega
        clear hjg hb hgw hall hjm
        by_cases hj0 : 0 < j
        · have hj0I : (0 : Int) < (j : Int) := by omega
          obtain ⟨y, hy⟩ : ∃ y, (ordR W i)[m]? = some y := ⟨(ordR W i)[m]'(by rw [ordR_len]; have := HJM.out; omega), List.getElem?_eq_getElem _⟩
          have hyi : y < i := (ordR_mem W y i).1 (List.mem_of_getElem? hy)
          obtain ⟨A, D, e1, e2, e3⟩ := ins_step W (n := n) hy
          obtain ⟨r, hr⟩ : ∃ r, j - 1 = r := ⟨_, rfl⟩
          have hrI : (j : Int) - 1 = (r : Int) := by omega
          have hAr : A.length = r := by have := HJM.out; omega
          have hb := HB.out
          rw [e1] at hb
          have l0 : (A ++ y :: i :: D)[r]? = some y := by rw [List.getElem?_append_right (by omega), hAr, Nat.sub_self]; rfl
          have l1 : (A ++ y :: i :: D)[j]? = some i := by rw [List.getElem?_append_right (by omega), hAr, show j - r = 1 by omega]; rfl
          have hlen : (A ++ y :: i :: D).length = n := by rw [← e1]; exact ins_len W hlt (by have := HJM.out; omega)
          have c0 := hb.at r _ (natV_is l0)
          have c1 := hb.at j _ (natV_is l1)
          have z0 := hb.z r (by rw [natV_length, hlen]; omega)
          have z1 := hb.z j (by rw [natV_length, hlen]; have := HJM.out; omega)
          have hjn : (j : Int) < n := by have := HJM.out; omega
          have hrn : (r : Int) < n := by have := HJM.out; omega
          have HN := Lib.hid (show BC ((wr.setCell ⟨g, j, none⟩ (.int .i64 (y : Int))).setCell ⟨g, r, none⟩ (.int .i64 (i : Int))) g (natV (insSt W n i (m + 1))) from by
            have := (hb.set j (.int .i64 (y : Int)) (by rw [natV_length, hlen]; have := HJM.out; omega)).set r (.int .i64 (i : Int)) (by rw [List.length_set, natV_length, hlen]; omega)
            rw [e3, ← swap_list, hAr, show r + 1 = j by omega]
            exact this)
          have HK := Lib.hid (fun Y (h : Below wr.heap.size wr Y) => HCL.out Y i y hlt (by omega) (HGW.out.andThen (gRow h (some g)) (fun k e => .inr e)))
          have k0 : ∀ u : Cl wr, u.x.cell? ⟨g, r, none⟩ = some (.int .i64 (y : Int)) := fun u => (u.h.cell (World.block_lt_of_cell? _ _ c0)).trans c0
          have k1 : ∀ u : Cl wr, u.x.cell? ⟨g, j, none⟩ = some (.int .i64 (i : Int)) := fun u => (u.h.cell (World.block_lt_of_cell? _ _ c1)).trans c1
          have HLT := Lib.hid (HC.out i y)
          obtain ⟨q, hq⟩ : ∃ q, c i y = q := ⟨_, rfl⟩
          rw [hq] at HK HLT
          have HYY := Lib.hid hy
          have HFB := Lib.hid (show ∀ Y, Below wr.heap.size wr Y → BC Y g (natV (insSt W n i m)) ∧ w.grownBy Y (some g) from fun Y h => ⟨HB.out.below h, HGW.out.andThen (gRow h (some g)) (fun k e => .inr e)⟩)
          haveI := cls_some wr
          clear hq hy hyi e1 e2 e3 hr hAr hb l0 l1 hlen c0 c1 z0 z1 HN HB
          clear A D
          go_wp2_with fail
          refine wp_region_cls (by kernel_rfl) ?_
          iterate 14 (go_big_quiet_step (fail))
          go_big_quiet_step ((exact quiet_cB (Below.refl _ _) HK.out _))
          iterate 2 (go_big_quiet_step (fail))
          refine wpQuiet_nil ?_
          intro w7 hw7
          obtain ⟨u7, rfl⟩ := hw7
          have HF7 := Lib.hid (HFB.out u7.x u7.h)
          clear k0 k1
          by_cases hlq : q < 0
          · have hyx := HLT.out.1 hlq
            obtain ⟨A, D, e1, e2, e3⟩ := ins_step W (n := n) HYY.out
            have hAr : A.length = r := by have := HJM.out; omega
            have hb := HF7.out.1
            rw [e1] at hb
            have l0 : (A ++ y :: i :: D)[r]? = some y := by rw [List.getElem?_append_right (by omega), hAr, Nat.sub_self]; rfl
            have l1 : (A ++ y :: i :: D)[j]? = some i := by rw [List.getElem?_append_right (by omega), hAr, show j - r = 1 by omega]; rfl
            have hlen : (A ++ y :: i :: D).length = n := by rw [← e1]; exact ins_len W hlt (by have := HJM.out; omega)
            have c0 := hb.at r _ (natV_is l0)
            have c1 := hb.at j _ (natV_is l1)
            have z0 := hb.z r (by rw [natV_length, hlen]; omega)
            have z1 := hb.z j (by rw [natV_length, hlen]; have := HJM.out; omega)
            have HN := Lib.hid (show BC ((u7.x.setCell ⟨g, j, none⟩ (.int .i64 (y : Int))).setCell ⟨g, r, none⟩ (.int .i64 (i : Int))) g (natV (insSt W n i (m + 1))) from by
              have := (hb.set j (.int .i64 (y : Int)) (by rw [natV_length, hlen]; have := HJM.out; omega)).set r (.int .i64 (i : Int)) (by rw [List.length_set, natV_length, hlen]; omega)
              rw [e3, ← swap_list, hAr, show r + 1 = j by omega]
              exact this)
            have HW := Lib.hid (show w.grownBy ((u7.x.setCell ⟨g, j, none⟩ (.int .i64 (y : Int))).setCell ⟨g, r, none⟩ (.int .i64 (i : Int))) (some g) from (HF7.out.2.andThen (gSetB _ g j _) (fun k e => .inr e)).andThen (gSetB _ g r _) (fun k e => .inr e))
            have HAL2 := Lib.hid (show ∀ t z, t < m + 1 → (ordR W i)[t]? = some z → W z < W i from fun t z ht hz => by
              by_cases htm : t < m
              · exact HALL.out t z htm hz
              · obtain rfl : t = m := by omega
                rw [HYY.out] at hz
                cases hz
                exact hyx)
            obtain ⟨X, hX⟩ : ∃ X, u7.x = X := ⟨_, rfl⟩
            rw [hX] at c0 c1 z0 z1 HN HW ⊢
            have hrj : ¬ r = j := by omega
            have hjr : ¬ j = r := by omega
            clear hX hb l0 l1 hlen hAr e1 e2 e3 hyx HF7
            clear A D
            go_wp2_with fail
            go_region
            go_wp2
            go_roundg j
            case rel => exact ⟨r, m + 1, by go_num, by have := HJM.out; omega, by omega, HN.out.drew, gDrewB HW.out, HAL2.out⟩
            case measure => have := HJG.out; omega
          · have hB : decide (q < 0) = false := by simpa using hlq
            have HST := Lib.hid (ins_stop W (n := n) (show m ≤ i by have := HJM.out; omega) HALL.out (fun z hz => by
              rw [HYY.out] at hz
              cases hz
              exact fun h => hlq (HLT.out.2 h)))
            have hb := HF7.out.1
            rw [HST.out] at hb
            have HB2 := Lib.hid hb
            clear hb
            go_wp2_with fail
            go_roundg (n - i)
            case rel => exact ⟨i + 1, by go_num, by omega, by omega, by omega, HB2.out, HF7.out.2⟩
            case measure => have := HG.out; omega
        · obtain rfl : j = 0 := by omega
          have hB : decide ((0 : Int) < ((0 : Nat) : Int)) = false := by decide
          obtain rfl : m = i := by have := HJM.out; omega
          have HST := Lib.hid (ins_stop W (n := n) (Nat.le_refl m) HALL.out (fun z hz => by
            have := (List.getElem?_eq_some_iff.1 hz).1
            rw [ordR_len] at this
            omega))
          have hb := HB.out
          rw [HST.out] at hb
          have HB2 := Lib.hid hb
          clear hb HB
          go_wp2_with fail
          go_quiet (fail)
          go_wp2
          go_roundg (n - m)
          case rel => exact ⟨m + 1, by go_num, by omega, by omega, by omega, HB2.out.below (below_drewN (Below.refl _ _)), HGW.out.andThen (gRow (below_drewN (Below.refl _ _)) (some g)) (fun k e => .inr e)⟩
          case measure => have := HG.out; omega
    · obtain rfl : n = i := by omega
      have hB : decide ((n : Int) < n) = false := by simp
      go_wp2
      go_end0
      exact ⟨rfl, by rw [← out_end]; exact HB.out, HGW.out⟩
end
end Go.Proofs.Gv
