/- limited.merge: two rows of items in one. -/
import Derived.Test.YtglgiofjgfbfgaaLpaP
set_option linter.unusedSimpArgs false
set_option linter.unusedVariables false
namespace Go.Proofs.Gv
open Go Go.RowKit Go.Maps

theorem drop_cons {α : Type} {L : List α} {i : Nat} {x : α} (h : L[i]? = some x) : L.drop i = x :: L.drop (i + 1) := by
  obtain ⟨h1, h2⟩ := List.getElem?_eq_some_iff.1 h
  rw [← h2]; exact List.drop_eq_getElem_cons h1
theorem ItS.at3 {W : World} {b : Nat} {L : List (Nat × Bool)} (h : ItS W b L) {i : Nat} {x : Nat × Bool} (hx : L[i]? = some x) : W.cell? ⟨b, i * 3, none⟩ = some (.bool false) ∧ W.cell? ⟨b, i * 3 + 1, none⟩ = some (.string (mg x.1)) ∧ W.cell? ⟨b, i * 3 + 2, none⟩ = some (.bool x.2) :=
  ⟨h _ _ (itV_at hx).1, h _ _ (itV_at hx).2.1, h _ _ (itV_at hx).2.2⟩
/-- What merging has done: i and j of both rows. -/
structure MgI (X Y : List (Nat × Bool)) (b1 b2 c1 c2 : Nat) (w : World) (v0 v1 v7 : Value) (i j : Nat) (W : World) : Prop where
  hi : i ≤ X.length
  hj : j ≤ Y.length
  v0 : ∃ p, v0 = .slice (some p) (X.length - i) (c1 - i) ∧ (i < X.length → p = ⟨b1, i * 3, none⟩)
  v1 : ∃ p, v1 = .slice (some p) (Y.length - j) (c2 - j) ∧ (j < Y.length → p = ⟨b2, j * 3, none⟩)
  own : ∃ D, W.ownsRow w.heap.size 95 3 v7 (i + j) (itV D) ∧ D ++ mgI (X.drop i) (Y.drop j) = mgI X Y ∧ D.length = i + j
  b : Below w.heap.size w W
set_option maxRecDepth 100000 in
set_option maxHeartbeats 4000000 in
theorem merge_any (X Y : List (Nat × Bool)) (b1 b2 c1 c2 : Nat) (w : World) (h1 : X.length ≤ c1) (h2 : Y.length ≤ c2) (m1 : c1 ≤ maxLen) (m2 : c2 ≤ maxLen) (hl1 : X.length ≤ 1000) (hl2 : Y.length ≤ 1000)
    (hX : ∀ x ∈ X, x.1 < 2 ^ 200) (hY : ∀ y ∈ Y, y.1 < 2 ^ 200) (r1 : ItS w b1 X) (r2 : ItS w b2 Y) :
    Calls Try.prog 70 #[.slice (some ⟨b1, 0, none⟩) X.length c1, .slice (some ⟨b2, 0, none⟩) Y.length c2, .func (.func 69) #[] #[]] w fun e w' => ∃ v, e = .returned v ∧ w'.ownsRow w.heap.size 95 3 v (X.length + Y.length) (itV (mgI X Y)) ∧ Below w.heap.size w w' := by
  have R1 := Lib.hid r1
  have R2 := Lib.hid r2
  have HX := Lib.hid hX
  have HY := Lib.hid hY
  have H1 := Lib.hid h1
  have H2 := Lib.hid h2
  have M1 := Lib.hid m1
  have M2 := Lib.hid m2
  have HL := Lib.hid (And.intro hl1 hl2)
  clear r1 r2 hX hY h1 h2 m1 m2 hl1 hl2
  obtain ⟨i0, hi0, hz0, hz1, hz2⟩ := info_parts infoIt
  obtain ⟨n1, hn1⟩ : ∃ n, X.length = n := ⟨_, rfl⟩
  obtain ⟨n2, hn2⟩ : ∃ n, Y.length = n := ⟨_, rfl⟩
  have HN := Lib.hid (And.intro hn1 hn2)
  rw [hn1, hn2]
  rw [hn1] at H1 HL
  rw [hn2] at H2 HL
  obtain ⟨Bs, hBs⟩ : ∃ b, w.heap.size = b := ⟨_, rfl⟩
  have HBS := Lib.hid hBs
  clear hn1 hn2
  go_enter Try.func70, Try.ntmps70
  go_wp2_with fail
  go_loopg [0, 1, 7] (n1 + n2 + 1) (fun gg v0 v1 v7 wr => ∃ i j : Nat, n1 + n2 - (i + j) < gg ∧ MgI X Y b1 b2 c1 c2 w v0 v1 v7 i j wr)
  case atStart => exact ⟨0, 0, by omega, ⟨Nat.zero_le _, Nat.zero_le _, ⟨_, by rw [HN.out.1]; rfl, fun _ => by rw [Nat.zero_mul]⟩, ⟨_, by rw [HN.out.2]; rfl, fun _ => by rw [Nat.zero_mul]⟩, ⟨[], own_nil _ _ _ _, rfl, rfl⟩, Below.refl _ _⟩⟩
  case round =>
    obtain ⟨i, j, hg, hm⟩ := hrel
    obtain ⟨hi, hj, ⟨p, rfl, hp⟩, ⟨q, rfl, hq⟩, ⟨D, hown, hD, hDl⟩, hb⟩ := hm
    rw [HN.out.1] at hi hp ⊢
    rw [HN.out.2] at hj hq ⊢
    have HG := Lib.hid hg
    have HO := Lib.hid hown
    have HD := Lib.hid hD
    have HDL := Lib.hid hDl
    have HB := Lib.hid hb
    obtain ⟨l1, hl1⟩ : ∃ l, n1 - i = l := ⟨_, rfl⟩
    obtain ⟨l2, hl2⟩ : ∃ l, n2 - j = l := ⟨_, rfl⟩
    obtain ⟨k1, hk1⟩ : ∃ l, c1 - i = l := ⟨_, rfl⟩
    obtain ⟨k2, hk2⟩ : ∃ l, c2 - j = l := ⟨_, rfl⟩
    have HLK := Lib.hid (show n1 = i + l1 ∧ n2 = j + l2 ∧ c1 = i + k1 ∧ c2 = j + k2 from by have := H1.out; have := H2.out; omega)
    rw [hl1, hl2, hk1, hk2]
    have HP := Lib.hid hp
    have HQ := Lib.hid hq
    clear hown hD hDl hb hg hl1 hl2 hk1 hk2 hi hj hp hq
    obtain ⟨v, rfl⟩ : ∃ X, X = u7 := ⟨_, rfl⟩
    by_cases h1 : 0 < l1
    · by_cases h2 : 0 < l2
      · have h1I : (0 : Int) < (l1 : Int) := by omega
        have h2I : (0 : Int) < (l2 : Int) := by omega
        obtain rfl := HP.out (by have := HLK.out; omega)
        obtain rfl := HQ.out (by have := HLK.out; omega)
        obtain ⟨x, hx⟩ : ∃ x, X[i]? = some x := ⟨X[i]'(by have := HLK.out; have := HN.out; omega), List.getElem?_eq_getElem _⟩
        obtain ⟨y, hy⟩ : ∃ y, Y[j]? = some y := ⟨Y[j]'(by have := HLK.out; have := HN.out; omega), List.getElem?_eq_getElem _⟩
        have HXY := Lib.hid (And.intro hx hy)
        have hij : i + j ≤ 2000 := by have := HLK.out; have := HL.out; omega
        have hlI : (1 : Int) ≤ (l1 : Int) := by omega
        have hlI2 : (1 : Int) ≤ (l2 : Int) := by omega
        have hkI : (l1 : Int) ≤ (k1 : Int) := by have := HLK.out; have := H1.out; omega
        have hkI2 : (l2 : Int) ≤ (k2 : Int) := by have := HLK.out; have := H2.out; omega
        have HBL := Lib.hid (show b1 < w.heap.size ∧ b2 < w.heap.size from ⟨World.block_lt_of_cell? _ _ (R1.out.at3 hx).1, World.block_lt_of_cell? _ _ (R2.out.at3 hy).1⟩)
        obtain ⟨c0, c1x, c2x⟩ := (R1.out.below HB.out).at3 hx
        obtain ⟨f0, f1, f2⟩ := (R2.out.below HB.out).at3 hy
        have hxb := HX.out x (List.mem_of_getElem? hx)
        have hyb := HY.out y (List.mem_of_getElem? hy)
        obtain ⟨o1, ho1⟩ : ∃ o, i * 3 = o := ⟨_, rfl⟩
        obtain ⟨o2, ho2⟩ : ∃ o, j * 3 = o := ⟨_, rfl⟩
        have HOO := Lib.hid (And.intro ho1 ho2)
        rw [ho1] at c0 c1x c2x ⊢
        rw [ho2] at f0 f1 f2 ⊢
        clear hx hy ho1 ho2 HP HQ
        obtain ⟨xn, xb⟩ := x
        obtain ⟨yn, yb⟩ := y
        have k0 : ∀ u : Cl wr, u.x.cell? ⟨b1, o1, none⟩ = some (.bool false) := fun u => (u.h.cell (World.block_lt_of_cell? _ _ c0)).trans c0
        have k1x : ∀ u : Cl wr, u.x.cell? ⟨b1, o1 + 1, none⟩ = some (.string (mg xn)) := fun u => (u.h.cell (World.block_lt_of_cell? _ _ c1x)).trans c1x
        have k2x : ∀ u : Cl wr, u.x.cell? ⟨b1, o1 + 2, none⟩ = some (.bool xb) := fun u => (u.h.cell (World.block_lt_of_cell? _ _ c2x)).trans c2x
        have d0 : ∀ u : Cl wr, u.x.cell? ⟨b2, o2, none⟩ = some (.bool false) := fun u => (u.h.cell (World.block_lt_of_cell? _ _ f0)).trans f0
        have d1 : ∀ u : Cl wr, u.x.cell? ⟨b2, o2 + 1, none⟩ = some (.string (mg yn)) := fun u => (u.h.cell (World.block_lt_of_cell? _ _ f1)).trans f1
        have d2 : ∀ u : Cl wr, u.x.cell? ⟨b2, o2 + 2, none⟩ = some (.bool yb) := fun u => (u.h.cell (World.block_lt_of_cell? _ _ f2)).trans f2
        have HK := Lib.hid (fun (X : World) (_ : Below wr.heap.size wr X) => cmpIt_any (xn, xb) (yn, yb) hxb hyb X)
        obtain ⟨r, hr⟩ : ∃ r, cmpI (xn : Int) (yn : Int) = r := ⟨_, rfl⟩
        have HR := Lib.hid (show r ≤ 0 ↔ xn ≤ yn from by
          rw [← hr]
          rcases cmpI_cases (xn : Int) (yn : Int) with ⟨h1, h2, -⟩ | ⟨h1, h2, -⟩ | ⟨h1, h2, -⟩ <;> rw [h2] <;> constructor <;> intro <;> omega)
        simp only [hr] at HK
        have eg := enters_of Try.func69 (by kernel_rfl) rfl
        haveI := cls_some wr
        clear hr c0 c1x c2x f0 f1 f2 hxb hyb
        go_wp2_with fail
        refine wp_region_cls (by kernel_rfl) ?_
        iterate 7 (go_big_quiet_step (fail))
        go_big_quiet_step ((exact quiet_cB (Below.refl _ _) HK.out _))
        iterate 1 (go_big_quiet_step (fail))
        refine wpQuiet_nil ?_
        intro w7 hw7
        obtain ⟨u7, rfl⟩ := hw7
        have HU := Lib.hid (show u7.x.ownsRow Bs 95 3 v (i + j) (itV D) ∧ Below Bs w u7.x from ⟨own_grown (HBS.out ▸ HO.out) (gRow u7.h none) (by simp), by rw [← HBS.out]; exact bstep HB.out u7.h⟩)
        by_cases hxy : xn ≤ yn
        · have hrr : r ≤ 0 := HR.out.2 hxy
          have e0 := k0 u7
          have e1 := k1x u7
          have e2 := k2x u7
          obtain ⟨U, hU⟩ : ∃ U, u7.x = U := ⟨_, rfl⟩
          rw [hU] at HU e0 e1 e2 ⊢
          clear hU k0 k1x k2x d0 d1 d2 this
          go_wp2_with fail
          have HNV := Lib.hid (show some b1 ≠ v.ownBlock from fun e => by have := (own_base HU.out.1 e.symm).1; have := HBL.out; have := HBS.out; omega)
          go_region_held3 (fun w' => w'.cell? ⟨b1, o1, none⟩ = some (.bool false) ∧ w'.cell? ⟨b1, o1 + 1, none⟩ = some (.string (mg xn)) ∧ w'.cell? ⟨b1, o1 + 2, none⟩ = some (.bool xb)) (go_keep) (first
            | (refine step_append_lies _ (by rfl) _ _ _ (by rfl) Bs 95 i0 _ 3 32 Try.underlying90 hi0 hz0 hz1 hz2 rfl (by omega) v (i + j) (itV D) (by rfl) ((HU.out.1.alloc _).drew) ⟨U.heap.size, 0, none⟩ 1 1 [.bool false, .string (mg xn), .bool xb] (by rfl) (by rfl) (World.news_of_block (cs := #[.bool false, .string (mg xn), .bool xb]) (t := 95) (fr := (0, 0)) (heap_alloc_new U _)) (by simp [Value.oneCell']) (by omega) (by unfold maxLen; omega) (by omega) (by have := HU.out.2.size; have := HBS.out; simp; omega) (U.heap.size + 1) (by simp) ?_; intro g4 cap4 w4 hown4 hgrow4 hat4 hlt4; have p1 := (hgrow4.cell_far ⟨b1, o1, none⟩ (by have := HBL.out; have := HU.out.2.size; have := HBS.out; simp; omega) HNV.out).trans ((World.cell?_alloc_lt _ _ _ (World.block_lt_of_cell? _ _ e0)).trans e0); have p2 := (hgrow4.cell_far ⟨b1, o1 + 1, none⟩ (by have := HBL.out; have := HU.out.2.size; have := HBS.out; simp; omega) HNV.out).trans ((World.cell?_alloc_lt _ _ _ (World.block_lt_of_cell? _ _ e1)).trans e1); have p3 := (hgrow4.cell_far ⟨b1, o1 + 2, none⟩ (by have := HBL.out; have := HU.out.2.size; have := HBS.out; simp; omega) HNV.out).trans ((World.cell?_alloc_lt _ _ _ (World.block_lt_of_cell? _ _ e2)).trans e2); have HO4 := Lib.hid hown4; have HG4 := Lib.hid hgrow4; clear hown4 hgrow4 hat4 hlt4))
          all_goals go_wp2_with fail
          all_goals have HF4 := Lib.hid (show Below w.heap.size w w4 from by rw [HBS.out]; exact (HU.out.2.grown (gDrewB (World.grownBy_alloc U _ none)) (by have := HU.out.2.size; have := HBS.out; omega) (by simp)).grown HG4.out (by have := HU.out.2.size; have := HBS.out; simp; omega) (fun k e => (own_base HU.out.1 e).1))
          all_goals have hD9 := HD.out
          all_goals go_roundg (n1 + n2 - (i + j))
          all_goals first | (have := HG.out; omega) | skip
          all_goals refine ⟨i + 1, j, by have := HLK.out; omega, ⟨by have := HLK.out; rw [HN.out.1]; omega, by have := HLK.out; rw [HN.out.2]; omega, ?_, ?_, ⟨D ++ [(xn, xb)], ?_, ?_, ?_⟩, ?_⟩⟩
          all_goals first
            | (refine ⟨_, by have := HLK.out; rw [HN.out.1]; congr 1 <;> omega, fun hh => ?_⟩; have := HLK.out; have := HN.out; first | (exfalso; omega) | (have := HOO.out; congr 1; omega))
            | (refine ⟨_, by have := HLK.out; rw [HN.out.2]; congr 1 <;> omega, fun _ => by rw [HOO.out.2]⟩)
            | (rw [HBS.out, show i + 1 + j = i + j + 1 by omega, itV_app]; exact HO4.out.drew)
            | (rw [drop_cons HXY.out.1, drop_cons HXY.out.2, mgI_cons, if_pos hxy] at hD9; rw [List.append_assoc, ← hD9, drop_cons HXY.out.2]; rfl)
            | (rw [List.length_append, HDL.out]; simp only [List.length_cons, List.length_nil]; omega)
            | exact HF4.out
        · have hrr : ¬ r ≤ 0 := fun h => hxy (HR.out.1 h)
          have hrrB : decide (r ≤ 0) = false := by simpa using hrr
          have e0 := d0 u7
          have e1 := d1 u7
          have e2 := d2 u7
          obtain ⟨U, hU⟩ : ∃ U, u7.x = U := ⟨_, rfl⟩
          rw [hU] at HU e0 e1 e2 ⊢
          clear hU k0 k1x k2x d0 d1 d2 this
          go_wp2_with fail
          have HNV := Lib.hid (show some b2 ≠ v.ownBlock from fun e => by have := (own_base HU.out.1 e.symm).1; have := HBL.out; have := HBS.out; omega)
          go_region_held3 (fun w' => w'.cell? ⟨b2, o2, none⟩ = some (.bool false) ∧ w'.cell? ⟨b2, o2 + 1, none⟩ = some (.string (mg yn)) ∧ w'.cell? ⟨b2, o2 + 2, none⟩ = some (.bool yb)) (go_keep) (first
            | (refine step_append_lies _ (by rfl) _ _ _ (by rfl) Bs 95 i0 _ 3 32 Try.underlying90 hi0 hz0 hz1 hz2 rfl (by omega) v (i + j) (itV D) (by rfl) ((HU.out.1.alloc _).drew) ⟨U.heap.size, 0, none⟩ 1 1 [.bool false, .string (mg yn), .bool yb] (by rfl) (by rfl) (World.news_of_block (cs := #[.bool false, .string (mg yn), .bool yb]) (t := 95) (fr := (0, 0)) (heap_alloc_new U _)) (by simp [Value.oneCell']) (by omega) (by unfold maxLen; omega) (by omega) (by have := HU.out.2.size; have := HBS.out; simp; omega) (U.heap.size + 1) (by simp) ?_; intro g4 cap4 w4 hown4 hgrow4 hat4 hlt4; have p1 := (hgrow4.cell_far ⟨b2, o2, none⟩ (by have := HBL.out; have := HU.out.2.size; have := HBS.out; simp; omega) HNV.out).trans ((World.cell?_alloc_lt _ _ _ (World.block_lt_of_cell? _ _ e0)).trans e0); have p2 := (hgrow4.cell_far ⟨b2, o2 + 1, none⟩ (by have := HBL.out; have := HU.out.2.size; have := HBS.out; simp; omega) HNV.out).trans ((World.cell?_alloc_lt _ _ _ (World.block_lt_of_cell? _ _ e1)).trans e1); have p3 := (hgrow4.cell_far ⟨b2, o2 + 2, none⟩ (by have := HBL.out; have := HU.out.2.size; have := HBS.out; simp; omega) HNV.out).trans ((World.cell?_alloc_lt _ _ _ (World.block_lt_of_cell? _ _ e2)).trans e2); have HO4 := Lib.hid hown4; have HG4 := Lib.hid hgrow4; clear hown4 hgrow4 hat4 hlt4))
          all_goals go_wp2_with fail
          all_goals have HF4 := Lib.hid (show Below w.heap.size w w4 from by rw [HBS.out]; exact (HU.out.2.grown (gDrewB (World.grownBy_alloc U _ none)) (by have := HU.out.2.size; have := HBS.out; omega) (by simp)).grown HG4.out (by have := HU.out.2.size; have := HBS.out; simp; omega) (fun k e => (own_base HU.out.1 e).1))
          all_goals have hD9 := HD.out
          all_goals go_roundg (n1 + n2 - (i + j))
          all_goals first | (have := HG.out; omega) | skip
          all_goals refine ⟨i, j + 1, by have := HLK.out; omega, ⟨by have := HLK.out; rw [HN.out.1]; omega, by have := HLK.out; rw [HN.out.2]; omega, ?_, ?_, ⟨D ++ [(yn, yb)], ?_, ?_, ?_⟩, ?_⟩⟩
          all_goals first
            | (refine ⟨_, by have := HLK.out; rw [HN.out.2]; congr 1 <;> omega, fun hh => ?_⟩; have := HLK.out; have := HN.out; first | (exfalso; omega) | (have := HOO.out; congr 1; omega))
            | (refine ⟨_, by have := HLK.out; rw [HN.out.1]; congr 1 <;> omega, fun _ => by rw [HOO.out.1]⟩)
            | (rw [HBS.out, show i + (j + 1) = i + j + 1 by omega, itV_app]; exact HO4.out.drew)
            | (rw [drop_cons HXY.out.1, drop_cons HXY.out.2, mgI_cons, if_neg hxy] at hD9; rw [List.append_assoc, ← hD9, drop_cons HXY.out.1]; rfl)
            | (rw [List.length_append, HDL.out]; simp only [List.length_cons, List.length_nil]; omega)
            | exact HF4.out
      · obtain rfl : l2 = 0 := by omega
        have h1I : (0 : Int) < (l1 : Int) := by omega
        have HFIN := Lib.hid (show itV D ++ itV (X.drop i) ++ itV (Y.drop j) = itV (mgI X Y) from by rw [← itV_app, ← itV_app, ← HD.out, List.append_assoc]; congr 2; rw [(List.drop_of_length_le (by have := HLK.out; have := HN.out; omega) : Y.drop j = []), List.append_nil, mgI_nil'])
        have HA1 := Lib.hid (show ∀ k u, (itV (X.drop i))[k]? = some u → wr.cell? (p.add k) = some u from fun k u hk => by
          have hl := (List.getElem?_eq_some_iff.1 hk).1
          rw [itV_len, List.length_drop, HN.out.1] at hl
          rw [HP.out (by omega), addrA]
          rw [itV_drop, List.getElem?_drop] at hk
          exact (R1.out.below HB.out) _ _ hk)
        have HA2 := Lib.hid (show ∀ k u, (itV (Y.drop j))[k]? = some u → wr.cell? (q.add k) = some u from fun k u hk => by
          have hl := (List.getElem?_eq_some_iff.1 hk).1
          rw [itV_len, List.length_drop, HN.out.2] at hl
          rw [HQ.out (by omega), addrA]
          rw [itV_drop, List.getElem?_drop] at hk
          exact (R2.out.below HB.out) _ _ hk)
        have hb9 : i + j + l1 ≤ 2000 := by have := HLK.out; have := HL.out; omega
        have HBq := Lib.hid (show q.block < w.heap.size ∨ itV (Y.drop j) = [] from by
          rcases Nat.lt_or_ge j n2 with h | h
          · obtain ⟨y, hy⟩ : ∃ y, Y[j]? = some y := ⟨Y[j]'(by have := HN.out; omega), List.getElem?_eq_getElem _⟩
            rw [HQ.out h]; exact .inl (World.block_lt_of_cell? _ _ (R2.out.at3 hy).1)
          · refine .inr ?_; rw [List.drop_of_length_le (by have := HN.out; omega)]; rfl)
        have HQV := Lib.hid (show ∀ k u, (itV (Y.drop j))[k]? = some u → v.ownBlock ≠ some (q.add k).block from fun k u hk e => by
          rcases HBq.out with h | h
          · have h1 := (own_base HO.out e).1
            have h2 : (q.add k).block = q.block := by unfold Addr.add; split <;> rfl
            omega
          · rw [h] at hk; cases hk)
        go_wp2_with (at_builtin; first
          | (refine wpList_append_own _ rfl _ _ 90 rfl Bs 95 i0 (.agg #[.bool false, .string ⟨#[]⟩, .bool false]) 3 32 Try.underlying90 hi0 hz0 hz1 hz2 rfl (by decide) v (i + j) (itV D) rfl (HBS.out ▸ HO.out) p l1 k1 (itV (X.drop i)) rfl (by rw [itV_len, List.length_drop]; have := HLK.out; have := HN.out; congr 1; omega) (fun k u hk => HA1.out k u hk) (itV_one _) (by unfold maxLen; omega) (by omega) (by have := HB.out.size; omega) ?_; intro v1 w1 hown1 hgrow1 hnil1; have HO1 := Lib.hid hown1; have HG1 := Lib.hid hgrow1; have HA3 := Lib.hid (show ∀ k u, (itV (Y.drop j))[k]? = some u → w1.cell? (q.add k) = some u from fun k u hk => (World.cell?_of_block (hgrow1.block _ (by have := World.block_lt_of_cell? _ _ (HA2.out k u hk); exact this) (fun e => HQV.out k u hk e.symm))).trans (HA2.out k u hk)); clear hown1 hgrow1 hnil1)
          | (refine wpList_append_own _ rfl _ _ 90 rfl Bs 95 i0 (.agg #[.bool false, .string ⟨#[]⟩, .bool false]) 3 32 Try.underlying90 hi0 hz0 hz1 hz2 rfl (by decide) v1 (i + j + l1) (itV D ++ itV (X.drop i)) rfl HO1.out q 0 k2 (itV (Y.drop j)) rfl (by rw [itV_len, List.length_drop]; have := HLK.out; have := HN.out; congr 1; omega) (fun k u hk => HA3.out k u hk) (itV_one _) (by unfold maxLen; omega) (by omega) (by have := HB.out.size; have := HG1.out.size; omega) ?_; intro v2 w2 hown2 hgrow2 hnil2; have HO2 := Lib.hid hown2; have HG2 := Lib.hid hgrow2; clear hown2 hgrow2 hnil2))
        go_ret
        refine ⟨_, rfl, ?_, ?_⟩
        · have h := HO2.out
          rw [HFIN.out] at h
          have e : i + j + l1 + 0 = n1 + n2 := by have := HLK.out; omega
          rw [e] at h
          rw [HBS.out]
          exact h
        · exact (HB.out.grown HG1.out HB.out.size (fun k e => (own_base HO.out e).1)).grown HG2.out (by have := HB.out.size; have := HG1.out.size; omega) (fun k e => by rw [HBS.out]; exact (own_base HO1.out e).1)
    · obtain rfl : l1 = 0 := by omega
      have HFIN := Lib.hid (show itV D ++ itV (X.drop i) ++ itV (Y.drop j) = itV (mgI X Y) from by rw [← itV_app, ← itV_app, ← HD.out, List.append_assoc]; congr 2; rw [(List.drop_of_length_le (by have := HLK.out; have := HN.out; omega) : X.drop i = []), List.nil_append, mgI_nil])
      have HA1 := Lib.hid (show ∀ k u, (itV (X.drop i))[k]? = some u → wr.cell? (p.add k) = some u from fun k u hk => by
        have hl := (List.getElem?_eq_some_iff.1 hk).1
        rw [itV_len, List.length_drop, HN.out.1] at hl
        rw [HP.out (by omega), addrA]
        rw [itV_drop, List.getElem?_drop] at hk
        exact (R1.out.below HB.out) _ _ hk)
      have HA2 := Lib.hid (show ∀ k u, (itV (Y.drop j))[k]? = some u → wr.cell? (q.add k) = some u from fun k u hk => by
        have hl := (List.getElem?_eq_some_iff.1 hk).1
        rw [itV_len, List.length_drop, HN.out.2] at hl
        rw [HQ.out (by omega), addrA]
        rw [itV_drop, List.getElem?_drop] at hk
        exact (R2.out.below HB.out) _ _ hk)
      have hb9 : i + j + l2 ≤ 2000 := by have := HLK.out; have := HL.out; omega
      have HBq := Lib.hid (show q.block < w.heap.size ∨ itV (Y.drop j) = [] from by
        rcases Nat.lt_or_ge j n2 with h | h
        · obtain ⟨y, hy⟩ : ∃ y, Y[j]? = some y := ⟨Y[j]'(by have := HN.out; omega), List.getElem?_eq_getElem _⟩
          rw [HQ.out h]; exact .inl (World.block_lt_of_cell? _ _ (R2.out.at3 hy).1)
        · refine .inr ?_; rw [List.drop_of_length_le (by have := HN.out; omega)]; rfl)
      have HQV := Lib.hid (show ∀ k u, (itV (Y.drop j))[k]? = some u → v.ownBlock ≠ some (q.add k).block from fun k u hk e => by
        rcases HBq.out with h | h
        · have h1 := (own_base HO.out e).1
          have h2 : (q.add k).block = q.block := by unfold Addr.add; split <;> rfl
          omega
        · rw [h] at hk; cases hk)
      go_wp2_with (at_builtin; first
        | (refine wpList_append_own _ rfl _ _ 90 rfl Bs 95 i0 (.agg #[.bool false, .string ⟨#[]⟩, .bool false]) 3 32 Try.underlying90 hi0 hz0 hz1 hz2 rfl (by decide) v (i + j) (itV D) rfl (HBS.out ▸ HO.out) p 0 k1 (itV (X.drop i)) rfl (by rw [itV_len, List.length_drop]; have := HLK.out; have := HN.out; congr 1; omega) (fun k u hk => HA1.out k u hk) (itV_one _) (by unfold maxLen; omega) (by omega) (by have := HB.out.size; omega) ?_; intro v1 w1 hown1 hgrow1 hnil1; have HO1 := Lib.hid hown1; have HG1 := Lib.hid hgrow1; have HA3 := Lib.hid (show ∀ k u, (itV (Y.drop j))[k]? = some u → w1.cell? (q.add k) = some u from fun k u hk => (World.cell?_of_block (hgrow1.block _ (by have := World.block_lt_of_cell? _ _ (HA2.out k u hk); exact this) (fun e => HQV.out k u hk e.symm))).trans (HA2.out k u hk)); clear hown1 hgrow1 hnil1)
        | (refine wpList_append_own _ rfl _ _ 90 rfl Bs 95 i0 (.agg #[.bool false, .string ⟨#[]⟩, .bool false]) 3 32 Try.underlying90 hi0 hz0 hz1 hz2 rfl (by decide) v1 (i + j + 0) (itV D ++ itV (X.drop i)) rfl HO1.out q l2 k2 (itV (Y.drop j)) rfl (by rw [itV_len, List.length_drop]; have := HLK.out; have := HN.out; congr 1; omega) (fun k u hk => HA3.out k u hk) (itV_one _) (by unfold maxLen; omega) (by omega) (by have := HB.out.size; have := HG1.out.size; omega) ?_; intro v2 w2 hown2 hgrow2 hnil2; have HO2 := Lib.hid hown2; have HG2 := Lib.hid hgrow2; clear hown2 hgrow2 hnil2))
      go_ret
      refine ⟨_, rfl, ?_, ?_⟩
      · have h := HO2.out
        rw [HFIN.out] at h
        have e : i + j + 0 + l2 = n1 + n2 := by have := HLK.out; omega
        rw [e] at h
        rw [HBS.out]
        exact h
      · exact (HB.out.grown HG1.out HB.out.size (fun k e => (own_base HO.out e).1)).grown HG2.out (by have := HB.out.size; have := HG1.out.size; omega) (fun k e => by rw [HBS.out]; exact (own_base HO1.out e).1)
end Go.Proofs.Gv
