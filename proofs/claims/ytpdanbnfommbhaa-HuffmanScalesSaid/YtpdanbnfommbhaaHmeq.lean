/- slices.Equal of merges. -/
import Derived.Test.YtpdanbnfommbhaaHintP
import Derived.Laws.StructEq
import Derived.Deep.QuietTactic
set_option linter.unusedSimpArgs false
set_option linter.unusedVariables false
namespace Go.Proofs.Gv
open Go Go.RowKit Go.Maps

theorem eqM (a b c d : Int) (w : World) :
    (Op.equalIn 10000 39 (.agg #[.int .i64 a, .int .i64 b]) (.agg #[.int .i64 c, .int .i64 d])).run Try.prog w = .ok (a == c && b == d) w := by
  have hS : Try.prog.underlying 39 = some (.struct (Try.prog.fieldsOf 39)) := by kernel_rfl
  have hp : Try.prog.stoodInHeld 39 = false := by kernel_rfl
  have u4 := Try.underlying3
  have a4 := Try.isAgg3
  have z4 := Try.sizeOf3
  rw [show (10000 : Nat) = 9999 + 1 from rfl, run_equalIn_agg w 9999 39 _ _ hS hp]
  simp only [Program.fieldsOf, Try.underlying39]
  go_simp
  by_cases h : a = c <;> by_cases h2 : b = d <;> simp [h, h2]
@[go_sem ↓] theorem run_neqM (a b c d : Int) (w : World) :
    (binOp .neq 39 (.agg #[.int .i64 a, .int .i64 b]) (.agg #[.int .i64 c, .int .i64 d])).run Try.prog w = .ok (.bool (!(a == c && b == d))) w := by
  rw [run_neq_struct, eqM]; rfl
@[go_sem] theorem eqGuardM : Try.prog.eqGuardType Try.prog.depth 39 = false := by kernel_rfl
theorem mrgV_at : ∀ (l : List (Int × Int)) (i : Nat) (x : Int × Int), l[i]? = some x → (mrgV l)[i * 2]? = some (.int .i64 x.1) ∧ (mrgV l)[i * 2 + 1]? = some (.int .i64 x.2)
  | x :: r, 0, y, h => by simp at h; subst h; exact ⟨rfl, rfl⟩
  | x :: r, i + 1, y, h => by
    have := mrgV_at r i y (by simpa using h)
    rw [show (i + 1) * 2 = i * 2 + 1 + 1 by omega]
    simpa [mrgV] using this
theorem below_drewN {n k : Nat} {a b : World} (h : Below n a b) : Below n a (b.drewN k) := ⟨h.os, h.tape, h.output, h.size, h.block⟩
set_option maxRecDepth 100000 in
set_option maxHeartbeats 1600000 in
theorem eqMrg_any (u v : Value) (xs ys : List (Int × Int)) (h1 : xs.length ≤ 100000) (h2 : ys.length ≤ 100000) (w : World) (hu : MrgAt w u xs) (hv : MrgAt w v ys) :
    Calls Try.prog 29 #[u, v] w fun e w' => e = .returned (.bool (decide (xs = ys))) ∧ Below w.heap.size w w' := by
  obtain ⟨a, c, rfl, hat⟩ := hu
  obtain ⟨b, d, rfl, hbt⟩ := hv
  have HA := Lib.hid hat
  have HB := Lib.hid hbt
  clear hat hbt
  by_cases hl : xs.length = ys.length
  · have hlB : ((xs.length : Int) != ys.length) = false := by simp [hl]
    go_enter Try.func29, Try.ntmps29
    rw [hl]
    go_wp2
    go_loopg [13] (ys.length + 1) (fun gg v13 wr => ∃ i : Nat, v13 = .int .i64 (i : Int) ∧ i ≤ ys.length ∧ ys.length - i < gg ∧ xs.take i = ys.take i ∧ Below w.heap.size w wr)
    case atStart => exact ⟨0, rfl, Nat.zero_le _, by omega, rfl, Below.refl _ _⟩
    case round =>
      obtain ⟨i, rfl, hi, hig, he, hb⟩ := hrel
      have HG := Lib.hid hig
      have HE := Lib.hid he
      have HBW := Lib.hid hb
      clear hig he hb
      by_cases hlt : i < ys.length
      · have hltI : (i : Int) < ys.length := by omega
        obtain ⟨x, hx⟩ : ∃ x, xs[i]? = some x := ⟨xs[i]'(by omega), List.getElem?_eq_getElem _⟩
        obtain ⟨y, hy⟩ : ∃ y, ys[i]? = some y := ⟨ys[i], List.getElem?_eq_getElem hlt⟩
        obtain ⟨p1, p2⟩ := mrgV_at xs i x hx
        obtain ⟨q1, q2⟩ := mrgV_at ys i y hy
        obtain ⟨g, rfl, c0⟩ := HA.out _ _ p1
        obtain ⟨g', e1, c1⟩ := HA.out _ _ p2
        cases e1
        obtain ⟨k, rfl, d0⟩ := HB.out _ _ q1
        obtain ⟨k', e2, d1⟩ := HB.out _ _ q2
        cases e2
        have f0 := (HBW.out.cell (p := ⟨g, i * 2, none⟩) (World.block_lt_of_cell? w _ c0)).trans c0
        have f1 := (HBW.out.cell (p := ⟨g, i * 2 + 1, none⟩) (World.block_lt_of_cell? w _ c1)).trans c1
        have f2 := (HBW.out.cell (p := ⟨k, i * 2, none⟩) (World.block_lt_of_cell? w _ d0)).trans d0
        have f3 := (HBW.out.cell (p := ⟨k, i * 2 + 1, none⟩) (World.block_lt_of_cell? w _ d1)).trans d1
        have HX := Lib.hid (show xs.take (i + 1) = xs.take i ++ [x] ∧ ys.take (i + 1) = ys.take i ++ [y] from ⟨by rw [List.take_add_one, hx]; rfl, by rw [List.take_add_one, hy]; rfl⟩)
        have HXY := Lib.hid (show xs[i]? = some x ∧ ys[i]? = some y from ⟨hx, hy⟩)
        clear c0 c1 d0 d1 p1 p2 q1 q2 hx hy
        by_cases hxy : x = y
        · have hb1 : (!(x.1 == y.1 && x.2 == y.2)) = false := by rw [hxy]; simp
          have hx1 : x.1 = y.1 := by rw [hxy]
          have hx2 : x.2 = y.2 := by rw [hxy]
          have HXE := Lib.hid hxy
          clear hxy
          go_wp2_with fail
          go_quiet (fail)
          go_wp2
          go_roundg (ys.length - i)
          case rel => exact ⟨i + 1, by go_num, by omega, by omega, by rw [HX.out.1, HX.out.2, HE.out, HXE.out], below_drewN HBW.out⟩
          case measure => have := HG.out; omega
        · have hb1 : (x.1 == y.1 && x.2 == y.2) = false := by
            cases hq : (x.1 == y.1 && x.2 == y.2) with
            | false => rfl
            | true =>
              simp at hq
              exact absurd (Prod.ext hq.1 hq.2) hxy
          have HF := Lib.hid (show decide (xs = ys) = false from decide_eq_false fun e => by
            have := HXY.out
            rw [e, this.2] at this
            exact hxy (by simpa using this.1.symm))
          clear hxy
          go_wp2_with fail
          go_quiet (fail)
          go_wp2
          go_ret
          exact ⟨by rw [HF.out]; rfl, below_drewN HBW.out⟩
      · obtain rfl : i = ys.length := by omega
        have hB : decide ((ys.length : Int) < ys.length) = false := by simp
        have HF := Lib.hid (show decide (xs = ys) = true from decide_eq_true (by
          have := HE.out
          rwa [List.take_length, ← hl, List.take_length] at this))
        go_wp2
        go_ret
        exact ⟨by rw [HF.out]; rfl, HBW.out⟩
  · have hlB : ((xs.length : Int) != ys.length) = true := by simp; omega
    have hlN : ¬ (xs.length : Int) = ys.length := by omega
    have HF := Lib.hid (show decide (xs = ys) = false from decide_eq_false fun e => hl (by rw [e]))
    go_enter Try.func29, Try.ntmps29
    go_wp2
    go_ret
    exact ⟨by rw [HF.out]; rfl, Below.refl _ _⟩
end Go.Proofs.Gv
