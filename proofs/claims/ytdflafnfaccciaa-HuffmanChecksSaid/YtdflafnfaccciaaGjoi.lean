/- The reference's join (grooveref38). -/
import Derived.Test.YtdflafnfaccciaaGref
import Derived.Test.YtdflafnfaccciaaMixC
set_option linter.unusedSimpArgs false
set_option linter.unusedVariables false
namespace Go.Proofs.Gv
open Go Go.RowKit Go.Maps

def flR (rl : List (Nat × Bool × Int)) : List (Nat × Bool) := rl.map fun t => (t.1, t.2.1)
def wR (rl : List (Nat × Bool × Int)) (i : Nat) : Nat := ((rl[i]?).map (·.1)).getD 0
def stepR (rl : List (Nat × Bool × Int)) (i j : Nat) : List (Nat × Bool × Int) := ((rl.set i (wR rl i, false, (rl.length : Int))).set j (wR rl j, false, (rl.length : Int))) ++ [(wR rl i + wR rl j, true, -1)]
theorem flR_at {rl : List (Nat × Bool × Int)} {i : Nat} : (flR rl)[i]? = (rl[i]?).map fun t => (t.1, t.2.1) := by unfold flR; rw [List.getElem?_map]
theorem wAt_flR (rl : List (Nat × Bool × Int)) (i : Nat) : wAt (flR rl) i = wR rl i := by
  unfold wAt wR
  rw [flR_at, Option.map_map]
  rfl
theorem flR_step (rl : List (Nat × Bool × Int)) (i j : Nat) : flR (stepR rl i j) = stepJ (flR rl) ((i : Int), (j : Int)) := by
  unfold stepR stepJ joinL
  simp only [Int.toNat_natCast, wAt_flR]
  unfold flR
  rw [List.map_append, List.map_set, List.map_set]
  rfl
theorem free_at {rl : List (Nat × Bool × Int)} {x : Int} (h : freeI (flR rl) x = true) : ∃ (i : Nat) (p : Int), x = i ∧ i < rl.length ∧ rl[i]? = some (wR rl i, true, p) := by
  obtain ⟨i, rfl, h1⟩ := freeI_spec h
  rw [flR_at] at h1
  obtain ⟨⟨w, f, p⟩, h2, h3⟩ := Option.map_eq_some_iff.1 h1
  simp only [Prod.mk.injEq] at h3
  refine ⟨i, p, rfl, (List.getElem?_eq_some_iff.1 h2).1, ?_⟩
  rw [h2, ← h3.2]
  unfold wR
  rw [h2]
  rfl
/-- What join answers. -/
def JnPost (base n : Nat) (v : Value) (rl : List (Nat × Bool × Int)) (x y : Int) (w : World) (e : Ending) (w' : World) : Prop :=
  if okJ false (flR rl) (x, y) = true then ∃ v', e = .returned (.tuple #[v', .bool true]) ∧ w'.ownsRow base 65 4 v' (n + 1) (ndV (stepR rl x.toNat y.toNat)) ∧ w.grownBy w' v.ownBlock
  else e = .returned (.tuple #[v, .bool false]) ∧ Below w.heap.size w w'
set_option maxRecDepth 100000 in
set_option maxHeartbeats 8000000 in
theorem join_any (base n N : Nat) (v : Value) (rl : List (Nat × Bool × Int)) (x y : Int) (hn : rl.length = n) (h0 : 0 < n) (hn2 : n ≤ 1000) (hN : N ≤ 5000) (hw : ∀ i, wR rl i < 2 ^ N) (w : World) (hown : w.ownsRow base 65 4 v n (ndV rl)) (hbase : base ≤ w.heap.size) :
    Calls Try.prog 21 #[v, .agg #[.int .i64 x, .int .i64 y]] w (JnPost base n v rl x y w) := by
  obtain ⟨g, cap, rfl, hbg, hlg⟩ := hown.form h0
  have HOW := Lib.hid hown
  have HW := Lib.hid hw
  have HBS := Lib.hid hbase
  have HLN := Lib.hid hn
  have HA0 := Lib.hid (show Below w.heap.size w (w.alloc (.cells #[.int .i64 x, .int .i64 y] 43)) from (Below.refl _ w).alloc (Nat.le_refl _) _)
  have HPB := Lib.hid (BC.new w w.heap.size #[.int .i64 x, .int .i64 y] 43 rfl)
  have HLG := Lib.hid hlg
  clear hown hw hbase hlg
  by_cases hok : okJ false (flR rl) (x, y) = true
  · have HOK := Lib.hid hok
    unfold okJ at hok
    simp only [Bool.and_eq_true, decide_eq_true_eq] at hok
    obtain ⟨⟨⟨hxy, hfx⟩, hfy⟩, -⟩ := hok
    obtain ⟨i, pi, rfl, hi, hri⟩ := free_at hfx
    obtain ⟨j, pj, rfl, hj, hrj⟩ := free_at hfy
    rw [hn] at hi hj
    have hne : ¬ i = j := fun e => hxy (by rw [e])
    obtain ⟨wi, hwi⟩ : ∃ x, wR rl i = x := ⟨_, rfl⟩
    obtain ⟨wj, hwj⟩ : ∃ x, wR rl j = x := ⟨_, rfl⟩
    rw [hwi] at hri
    rw [hwj] at hrj
    have HWB := Lib.hid (show wi < 2 ^ N ∧ wj < 2 ^ N from ⟨by rw [← hwi]; exact HW.out i, by rw [← hwj]; exact HW.out j⟩)
    have HWQ := Lib.hid (show wR rl i = wi ∧ wR rl j = wj from ⟨hwi, hwj⟩)
    have HRI := Lib.hid hri
    have HRJ := Lib.hid hrj
    have HCI := Lib.hid (ndV_at _ _ _ _ _ hri)
    have HLI := Lib.hid (show i < rl.length ∧ j < rl.length from by rw [hn]; exact ⟨hi, hj⟩)
    have hrj1 : (rl.set i (wi, false, (n : Int)))[j]? = some (wj, true, pj) := by rw [List.getElem?_set_ne hne]; exact hrj
    have HRJ1 := Lib.hid hrj1
    have HCJ1 := Lib.hid (ndV_at _ _ _ _ _ hrj1)
    have HRI2 := Lib.hid (show ((rl.set i (wi, false, (n : Int))).set j (wj, false, (n : Int)))[i]? = some (wi, false, (n : Int)) from by rw [List.getElem?_set_ne (Ne.symm hne), List.getElem?_set_self HLI.out.1])
    have HRJ2 := Lib.hid (show ((rl.set i (wi, false, (n : Int))).set j (wj, false, (n : Int)))[j]? = some (wj, false, (n : Int)) from by rw [List.getElem?_set_self (by rw [List.length_set]; exact HLI.out.2)])
    have hB : ((i : Int) == j) = false := by simp; omega
    have hB1 : decide ((n : Int) ≤ i) = false := by simp; omega
    have hB2 : decide ((n : Int) ≤ j) = false := by simp; omega
    have hiI : (i : Int) < n := by omega
    have hjI : (j : Int) < n := by omega
    have ci := (HA0.out.cell (p := ⟨g, i * 4 + 2, none⟩) HLG.out).trans ((HOW.out.cellAt (i * 4 + 2) (by omega)).trans HCI.out.2.2.1)
    have cj := (HA0.out.cell (p := ⟨g, j * 4 + 2, none⟩) HLG.out).trans ((HOW.out.cellAt (j * 4 + 2) (by omega)).trans (ndV_at _ _ _ _ _ hrj).2.2.1)
    clear hxy hfx hfy hri hrj hrj1 hwi hwj hn
    obtain ⟨i0, hi0, hz0, hz1, hz2⟩ := info_parts infoNd
    go_enter Try.func21, Try.ntmps21
    go_wp2_with fail
    clear ci cj
    have HO0 := Lib.hid (HOW.out.alloc (.cells #[.int .i64 (i : Int), .int .i64 (j : Int)] 43))
    have HG0 := Lib.hid (show w.grownBy (w.alloc (.cells #[.int .i64 (i : Int), .int .i64 (j : Int)] 43)) (some g) from World.grownBy_alloc w _ _)
    have HP0 := Lib.hid HPB.out
    have HBG := Lib.hid (show g < w.heap.size from HLG.out)
    obtain ⟨W0, hW⟩ : ∃ X, w.alloc (.cells #[.int .i64 (i : Int), .int .i64 (j : Int)] 43) = X := ⟨_, rfl⟩
    obtain ⟨B3, hB3⟩ : ∃ B, w.heap.size = B := ⟨_, rfl⟩
    rw [hW] at HO0 HG0 HP0 ⊢
    rw [hB3] at HP0 HBG ⊢
    have HB3 := Lib.hid hB3
    clear hW hB3 HOW HPB HA0
    refine wp_region_mixC (fun u => ∃ q : CB [(B3, [.int .i64 (i : Int), .int .i64 (j : Int)])], u = q.x) [.q [0, 1, 2, 3, 4, 5, 6, 7, 8, 9], .r 10, .q [11, 12], .r 13] (by kernel_rfl) (by kernel_rfl) (by intro d v c a w h; cases d <;> exact h) (cb_in (BCs.cons (BCs.nil _) HP0.out.drew)) ?_
    have HO0d := Lib.hid (show World.ownsRow W0.drew base 65 4 (.slice (some ⟨g, 0, none⟩) n cap) n (ndV rl) from HO0.out)
    have HG0d := Lib.hid (gDrew HG0.out)
    have HP0d := Lib.hid HP0.out.drew
    obtain ⟨X0, hX⟩ : ∃ X, W0.drew = X := ⟨_, rfl⟩
    rw [hX] at HO0d HG0d HP0d ⊢
    clear hX HO0 HG0 HP0
    have d2 := (HO0d.out.cellAt (i * 4 + 2) (by omega)).trans HCI.out.2.2.1
    have d3 := (HO0d.out.cellAt (i * 4 + 3) (by omega)).trans HCI.out.2.2.2
    have z2 := HO0d.out.frozenAt (i * 4 + 2)
    have z3 := HO0d.out.frozenAt (i * 4 + 3)
    refine wpMixC_q ?_
    simp only [pickO, List.map_cons, List.map_nil, List.getElem?_toArray, List.getElem?_cons_succ, List.getElem?_cons_zero, Option.getD_some]
    haveI : Nonempty (CB [(B3, [.int .i64 (i : Int), .int .i64 (j : Int)])]) := ⟨⟨_, BCs.cons (BCs.nil _) HP0d.out⟩⟩
    have x0 := fun u : CB [(B3, [.int .i64 (i : Int), .int .i64 (j : Int)])] => u.at List.mem_cons_self 0 _ rfl
    have x1 := fun u : CB [(B3, [.int .i64 (i : Int), .int .i64 (j : Int)])] => u.at List.mem_cons_self 1 _ rfl
    iterate 10 (go_big_quiet_step (fail))
    refine wpQuiet_nil ?_
    clear this x0 x1
    refine wpMixC_r ?_
    simp only [pickO, List.map_cons, List.map_nil, List.getElem?_toArray, List.getElem?_cons_succ, List.getElem?_cons_zero, Option.getD_some]
    go_wp2_with fail
    have s1 := HO0d.out.stored (i * 4 + 2) (.bool false)
    have p1 := HP0d.out.other (i * 4 + 2) (.bool false) (show B3 ≠ g from by have := HBG.out; omega) (c := g)
    refine mixQC_ok ?_ ?_
    · exact cb_in (BCs.cons (BCs.nil _) p1)
    have HOa := Lib.hid s1.1
    have HGa := Lib.hid (HG0d.out.andThen s1.2 (fun k e => .inr e))
    have HPa := Lib.hid p1
    have d3a : (X0.setCell ⟨g, i * 4 + 2, none⟩ (.bool false)).cell? ⟨g, i * 4 + 3, none⟩ = some (.int .i64 pi) := (World.cell?_setCell_other _ _ _ _ (fun e => by have := congrArg Addr.off e; simp at this)).trans d3
    have z3a : (X0.setCell ⟨g, i * 4 + 2, none⟩ (.bool false)).frozen? ⟨g, i * 4 + 3, none⟩ = false := by rw [World.frozen?_setCell]; exact z3
    obtain ⟨Y0, hY⟩ : ∃ X, X0.setCell ⟨g, i * 4 + 2, none⟩ (.bool false) = X := ⟨_, rfl⟩
    rw [hY] at HOa HGa HPa d3a z3a ⊢
    clear hY s1 p1 d2 d3 z2 z3 HO0d HG0d HP0d
    refine wpMixC_q ?_
    simp only [pickO, List.map_cons, List.map_nil, List.getElem?_toArray, List.getElem?_cons_succ, List.getElem?_cons_zero, Option.getD_some]
    haveI : Nonempty (CB [(B3, [.int .i64 (i : Int), .int .i64 (j : Int)])]) := ⟨⟨_, BCs.cons (BCs.nil _) HPa.out⟩⟩
    iterate 2 (go_big_quiet_step (fail))
    refine wpQuiet_nil ?_
    clear this
    refine wpMixC_r ?_
    simp only [pickO, List.map_cons, List.map_nil, List.getElem?_toArray, List.getElem?_cons_succ, List.getElem?_cons_zero, Option.getD_some]
    go_wp2_with fail
    have s1 := HOa.out.stored (i * 4 + 3) (.int .i64 (n : Int))
    have p1 := HPa.out.other (i * 4 + 3) (.int .i64 (n : Int)) (show B3 ≠ g from by have := HBG.out; omega) (c := g)
    refine mixQC_ok ?_ ?_
    · exact cb_in (BCs.cons (BCs.nil _) p1)
    have HO1 := Lib.hid (show World.ownsRow (Y0.setCell ⟨g, i * 4 + 3, none⟩ (.int .i64 (n : Int))) base 65 4 (.slice (some ⟨g, 0, none⟩) n cap) n (ndV (rl.set i (wi, false, (n : Int)))) from by
      have := s1.1
      rw [ndV_set2 _ _ _ _ _ _ HRI.out, ndV_set3 _ _ _ _ _ _ (List.getElem?_set_self HLI.out.1), List.set_set] at this
      exact this)
    have HG1 := Lib.hid (HGa.out.andThen s1.2 (fun k e => .inr e))
    have HP1 := Lib.hid p1
    obtain ⟨W1, hY⟩ : ∃ X, Y0.setCell ⟨g, i * 4 + 3, none⟩ (.int .i64 (n : Int)) = X := ⟨_, rfl⟩
    rw [hY] at HO1 HG1 HP1 ⊢
    clear hY s1 p1 d3a z3a HOa HGa HPa
    refine wpMixC_nil ?_
    go_wp2_with fail
    refine wp_region_mixC (fun u => ∃ q : CB [(B3, [.int .i64 (i : Int), .int .i64 (j : Int)])], u = q.x) [.q [0, 1, 2, 3, 4, 5, 6, 7, 8, 9], .r 10, .q [11, 12], .r 13] (by kernel_rfl) (by kernel_rfl) (by intro d v c a w h; cases d <;> exact h) (cb_in (BCs.cons (BCs.nil _) HP1.out.drew)) ?_
    have HO1d := Lib.hid (show World.ownsRow W1.drew base 65 4 (.slice (some ⟨g, 0, none⟩) n cap) n (ndV (rl.set i (wi, false, (n : Int)))) from HO1.out)
    have HG1d := Lib.hid (gDrew HG1.out)
    have HP1d := Lib.hid HP1.out.drew
    obtain ⟨X1, hX⟩ : ∃ X, W1.drew = X := ⟨_, rfl⟩
    rw [hX] at HO1d HG1d HP1d ⊢
    clear hX HO1 HG1 HP1
    have d2 := (HO1d.out.cellAt (j * 4 + 2) (by omega)).trans HCJ1.out.2.2.1
    have d3 := (HO1d.out.cellAt (j * 4 + 3) (by omega)).trans HCJ1.out.2.2.2
    have z2 := HO1d.out.frozenAt (j * 4 + 2)
    have z3 := HO1d.out.frozenAt (j * 4 + 3)
    refine wpMixC_q ?_
    simp only [pickO, List.map_cons, List.map_nil, List.getElem?_toArray, List.getElem?_cons_succ, List.getElem?_cons_zero, Option.getD_some]
    haveI : Nonempty (CB [(B3, [.int .i64 (i : Int), .int .i64 (j : Int)])]) := ⟨⟨_, BCs.cons (BCs.nil _) HP1d.out⟩⟩
    have x0 := fun u : CB [(B3, [.int .i64 (i : Int), .int .i64 (j : Int)])] => u.at List.mem_cons_self 0 _ rfl
    have x1 := fun u : CB [(B3, [.int .i64 (i : Int), .int .i64 (j : Int)])] => u.at List.mem_cons_self 1 _ rfl
    iterate 10 (go_big_quiet_step (fail))
    refine wpQuiet_nil ?_
    clear this x0 x1
    refine wpMixC_r ?_
    simp only [pickO, List.map_cons, List.map_nil, List.getElem?_toArray, List.getElem?_cons_succ, List.getElem?_cons_zero, Option.getD_some]
    go_wp2_with fail
    have s1 := HO1d.out.stored (j * 4 + 2) (.bool false)
    have p1 := HP1d.out.other (j * 4 + 2) (.bool false) (show B3 ≠ g from by have := HBG.out; omega) (c := g)
    refine mixQC_ok ?_ ?_
    · exact cb_in (BCs.cons (BCs.nil _) p1)
    have HOa := Lib.hid s1.1
    have HGa := Lib.hid (HG1d.out.andThen s1.2 (fun k e => .inr e))
    have HPa := Lib.hid p1
    have d3a : (X1.setCell ⟨g, j * 4 + 2, none⟩ (.bool false)).cell? ⟨g, j * 4 + 3, none⟩ = some (.int .i64 pj) := (World.cell?_setCell_other _ _ _ _ (fun e => by have := congrArg Addr.off e; simp at this)).trans d3
    have z3a : (X1.setCell ⟨g, j * 4 + 2, none⟩ (.bool false)).frozen? ⟨g, j * 4 + 3, none⟩ = false := by rw [World.frozen?_setCell]; exact z3
    obtain ⟨Y1, hY⟩ : ∃ X, X1.setCell ⟨g, j * 4 + 2, none⟩ (.bool false) = X := ⟨_, rfl⟩
    rw [hY] at HOa HGa HPa d3a z3a ⊢
    clear hY s1 p1 d2 d3 z2 z3 HO1d HG1d HP1d
    refine wpMixC_q ?_
    simp only [pickO, List.map_cons, List.map_nil, List.getElem?_toArray, List.getElem?_cons_succ, List.getElem?_cons_zero, Option.getD_some]
    haveI : Nonempty (CB [(B3, [.int .i64 (i : Int), .int .i64 (j : Int)])]) := ⟨⟨_, BCs.cons (BCs.nil _) HPa.out⟩⟩
    iterate 2 (go_big_quiet_step (fail))
    refine wpQuiet_nil ?_
    clear this
    refine wpMixC_r ?_
    simp only [pickO, List.map_cons, List.map_nil, List.getElem?_toArray, List.getElem?_cons_succ, List.getElem?_cons_zero, Option.getD_some]
    go_wp2_with fail
    have s1 := HOa.out.stored (j * 4 + 3) (.int .i64 (n : Int))
    have p1 := HPa.out.other (j * 4 + 3) (.int .i64 (n : Int)) (show B3 ≠ g from by have := HBG.out; omega) (c := g)
    refine mixQC_ok ?_ ?_
    · exact cb_in (BCs.cons (BCs.nil _) p1)
    have HO2 := Lib.hid (show World.ownsRow (Y1.setCell ⟨g, j * 4 + 3, none⟩ (.int .i64 (n : Int))) base 65 4 (.slice (some ⟨g, 0, none⟩) n cap) n (ndV ((rl.set i (wi, false, (n : Int))).set j (wj, false, (n : Int)))) from by
      have := s1.1
      rw [ndV_set2 _ _ _ _ _ _ HRJ1.out, ndV_set3 _ _ _ _ _ _ (List.getElem?_set_self (by rw [List.length_set]; exact HLI.out.2)), List.set_set] at this
      exact this)
    have HG2 := Lib.hid (HGa.out.andThen s1.2 (fun k e => .inr e))
    have HP2 := Lib.hid p1
    obtain ⟨W2, hY⟩ : ∃ X, Y1.setCell ⟨g, j * 4 + 3, none⟩ (.int .i64 (n : Int)) = X := ⟨_, rfl⟩
    rw [hY] at HO2 HG2 HP2 ⊢
    clear hY s1 p1 d3a z3a HOa HGa HPa
    refine wpMixC_nil ?_
    go_wp2_with fail
    refine wp_region_mix [.q [0, 1, 2, 3, 4, 5, 6, 7, 8, 9, 10, 11, 12], .r 13, .q [14], .r 15] [16, 17, 18] (by kernel_rfl) (by kernel_rfl) (by intro d v c a w h; cases d <;> exact h) ?_
    intro X0 hb hz
    have HO3 := Lib.hid (own_grown HO2.out (Below.grows hb) (by simp))
    have HG3 := Lib.hid (HG2.out.andThen (Below.grows hb) (fun k e => by cases e))
    have HP3 := Lib.hid (HP2.out.below hb)
    have HL3 := Lib.hid (show g < X0.heap.size from Nat.lt_of_lt_of_le (own_base HO2.out rfl).2 hb.size)
    clear hb hz HO2 HG2 HP2
    refine wpMix_q ?_
    simp only [pickO, List.map_cons, List.map_nil, List.getElem?_toArray, List.getElem?_cons_succ, List.getElem?_cons_zero, Option.getD_some]
    haveI := cv_some X0
    have x0 := fun u : Cv X0 => (HP3.out.below u.h).at 0 _ rfl
    have x1 := fun u : Cv X0 => (HP3.out.below u.h).at 1 _ rfl
    have ei := ndV_at _ _ _ _ _ HRI2.out
    have ej := ndV_at _ _ _ _ _ HRJ2.out
    have x2 := fun u : Cv X0 => (u.h.cell (p := ⟨g, i * 4, none⟩) HL3.out).trans ((HO3.out.cellAt (i * 4) (by omega)).trans ei.1)
    have x3 := fun u : Cv X0 => (u.h.cell (p := ⟨g, i * 4 + 1, none⟩) HL3.out).trans ((HO3.out.cellAt (i * 4 + 1) (by omega)).trans ei.2.1)
    have x4 := fun u : Cv X0 => (u.h.cell (p := ⟨g, j * 4, none⟩) HL3.out).trans ((HO3.out.cellAt (j * 4) (by omega)).trans ej.1)
    have x5 := fun u : Cv X0 => (u.h.cell (p := ⟨g, j * 4 + 1, none⟩) HL3.out).trans ((HO3.out.cellAt (j * 4 + 1) (by omega)).trans ej.2.1)
    clear ei ej
    iterate 13 (go_big_quiet_step (fail))
    refine wpQuiet_nil ?_
    clear this x0 x1 x2 x3 x4 x5
    refine wpMix_r ?_
    simp only [pickO, List.map_cons, List.map_nil, List.getElem?_toArray, List.getElem?_cons_succ, List.getElem?_cons_zero, Option.getD_some]
    go_wp2_with fail
    refine (rAddN N N HWB.out.1 HWB.out.2 (by omega) (by omega) _).mono ?_
    rintro e w4 ⟨rfl, hb4⟩
    go_wp2_with fail
    refine mixQ_ok hb4 ?_
    have HO4 := Lib.hid (own_grown HO3.out (Below.grows hb4) (by simp))
    have HG4 := Lib.hid (HG3.out.andThen (Below.grows hb4) (fun k e => by cases e))
    have HSZ := Lib.hid (show base ≤ w4.heap.size from Nat.le_trans HBS.out HG4.out.size)
    clear hb4 HO3 HG3 HP3 HL3
    refine wpMix_q ?_
    simp only [pickO, List.map_cons, List.map_nil, List.getElem?_toArray, List.getElem?_cons_succ, List.getElem?_cons_zero, Option.getD_some]
    haveI := cv_some w4
    iterate 1 (go_big_quiet_step (fail))
    refine wpQuiet_nil ?_
    clear this
    refine wpMix_r ?_
    simp only [pickO, List.map_cons, List.map_nil, List.getElem?_toArray, List.getElem?_cons_succ, List.getElem?_cons_zero, Option.getD_some]
    go_wp2_with fail
    refine mixQ_ok ((Below.refl _ _).alloc (Nat.le_refl _) _) ?_
    refine wpMix_nil ?_
    simp only [pickO, List.map_cons, List.map_nil, List.getElem?_toArray, List.getElem?_cons_succ, List.getElem?_cons_zero, Option.getD_some]
    go_wp2_with (at_builtin; refine wpList_append_own_at _ rfl _ _ 51 rfl base 65 i0 (.agg #[.bool false, .string ⟨#[]⟩, .bool false, .int .i64 0]) 4 40 Try.underlying51 hi0 hz0 hz1 hz2 rfl (by decide) (.slice (some ⟨g, 0, none⟩) n cap) n _ rfl (HO4.out.alloc (.cells #[.bool false, .string (mg (wi + wj)), .bool true, .int .i64 (-1)] 65)) ⟨w4.heap.size, 0, none⟩ 1 1 [.bool false, .string (mg (wi + wj)), .bool true, .int .i64 (-1)] rfl rfl (ndV_cells w4 (wi + wj, true, -1) _) (by simp [Value.oneCell']) (by unfold maxLen; omega) (by omega) (by have := HSZ.out; simp; omega) ?_; intro v' w5 hown5 hgrow5 _ _; have HOX := Lib.hid hown5; have HGX := Lib.hid hgrow5; clear hown5 hgrow5)
    go_ret2
    unfold JnPost
    rw [if_pos HOK.out]
    refine ⟨_, rfl, ?_, (HG4.out.andThen (World.grownBy_alloc w4 (.cells #[.bool false, .string (mg (wi + wj)), .bool true, .int .i64 (-1)] 65) none) (fun k e => by cases e)).andThen HGX.out (fun k e => .inr e)⟩
    have := HOX.out
    unfold stepR
    rw [Int.toNat_natCast, Int.toNat_natCast, HWQ.out.1, HWQ.out.2, HLN.out, ndV_snoc]
    exact this
  · have HNO := Lib.hid (show ∀ w', Below w.heap.size w w' → JnPost base n (.slice (some ⟨g, 0, none⟩) n cap) rl x y w (.returned (.tuple #[.slice (some ⟨g, 0, none⟩) n cap, .bool false])) w' from fun w' hb => by
      unfold JnPost; rw [if_neg hok]; exact ⟨rfl, hb⟩)
    by_cases hx0 : x < 0
    · clear hok
      go_wp2
      go_ret2
      exact HNO.out _ (HA0.out)
    have hx0' : 0 ≤ x := by omega
    have hx0B : decide (x < 0) = false := by simp; omega
    by_cases hxn : (n : Int) ≤ x
    · clear hok
      go_wp2
      go_ret2
      exact HNO.out _ (HA0.out)
    have hxnB : decide ((n : Int) ≤ x) = false := by simp; omega
    have hxlt : x < (n : Int) := by omega
    by_cases hy0 : y < 0
    · clear hok
      go_wp2
      go_ret2
      exact HNO.out _ (HA0.out)
    have hy0' : 0 ≤ y := by omega
    have hy0B : decide (y < 0) = false := by simp; omega
    by_cases hyn : (n : Int) ≤ y
    · clear hok
      go_wp2
      go_ret2
      exact HNO.out _ (HA0.out)
    have hynB : decide ((n : Int) ≤ y) = false := by simp; omega
    have hylt : y < (n : Int) := by omega
    obtain ⟨i, rfl⟩ : ∃ i : Nat, x = i := ⟨x.toNat, by omega⟩
    obtain ⟨j, rfl⟩ : ∃ j : Nat, y = j := ⟨y.toNat, by omega⟩
    by_cases hxy : i = j
    · subst hxy
      have hB : ((i : Int) == i) = true := by simp
      clear hok
      go_wp2
      go_ret2
      exact HNO.out _ (HA0.out)
    have hB : ((i : Int) == j) = false := by simp; omega
    obtain ⟨⟨wi, fi, pi⟩, hri⟩ : ∃ t, rl[i]? = some t := ⟨rl[i]'(by omega), List.getElem?_eq_getElem _⟩
    obtain ⟨⟨wj, fj, pj⟩, hrj⟩ : ∃ t, rl[j]? = some t := ⟨rl[j]'(by omega), List.getElem?_eq_getElem _⟩
    have ci := (HA0.out.cell (p := ⟨g, i * 4 + 2, none⟩) HLG.out).trans ((HOW.out.cellAt (i * 4 + 2) (by omega)).trans (ndV_at _ _ _ _ _ hri).2.2.1)
    have cj := (HA0.out.cell (p := ⟨g, j * 4 + 2, none⟩) HLG.out).trans ((HOW.out.cellAt (j * 4 + 2) (by omega)).trans (ndV_at _ _ _ _ _ hrj).2.2.1)
    cases fi with
    | false =>
      clear hok hri hrj cj
      go_wp2
      go_ret2
      exact HNO.out _ (HA0.out)
    | true =>
      cases fj with
      | false =>
        clear hok hri hrj
        go_wp2
        go_ret2
        exact HNO.out _ (HA0.out)
      | true =>
        refine absurd ?_ hok
        unfold okJ freeI
        simp [flR_at, hri, hrj, hxy]
        omega
end Go.Proofs.Gv
