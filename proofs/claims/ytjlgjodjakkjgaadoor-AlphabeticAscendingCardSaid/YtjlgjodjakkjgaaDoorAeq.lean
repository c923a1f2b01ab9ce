/- Rows of integers, and rows of these: equal. -/
import Derived.Test.YtjlgjodjakkjgaaDoorAln
import Derived.Test.YtjlgjodjakkjgaaDoorIntNegP
import Derived.Test.YtjlgjodjakkjgaaDoorMix
import Derived.Deep.QuietTactic
set_option linter.unusedSimpArgs false
set_option linter.unusedVariables false
namespace Go.Proofs.Gv
open Go Go.RowKit Go.Maps

theorem below_drA {n k : Nat} {a b : World} (h : Below n a b) : Below n a (b.drewN k) := ⟨h.os, h.tape, h.output, h.size, h.block⟩
theorem take_sn {L : List (Bool × ByteArray)} {i : Nat} {x : Bool × ByteArray} (h : L[i]? = some x) : L.take (i + 1) = L.take i ++ [x] := by rw [List.take_add_one, h]; rfl
theorem quiet_clsB {w W : World} {f : Nat} {args : Array Value} {v : Value} (hW : Below w.heap.size w W) (h : ∀ X, Below w.heap.size w X → Calls Tryd.prog f args X fun e w' => e = .returned v ∧ Below X.heap.size X w') (u : Cl W) :
    Calls Tryd.prog f args u.x fun e w'' => e = .returned v ∧ ∃ u' : Cl W, w'' = u'.x :=
  (h u.x (bstep hW u.h)).mono fun _ w' ⟨he, hb⟩ => ⟨he, ⟨⟨w', bstep u.h hb⟩, rfl⟩⟩
section
variable (a b : Option Addr) (c d : Nat) (L M : List (Bool × ByteArray)) (hL : L.length ≤ 1000) (w : World) (hu : Sl w a L) (hv : Sl w b M)
include hL hu hv
set_option maxRecDepth 100000 in
set_option maxHeartbeats 1600000 in
theorem eqIs_any : Calls Tryd.prog 36 #[.slice a L.length c, .slice b M.length d] w fun e w' => e = .returned (.bool (decide (L = M))) ∧ Below w.heap.size w w' := by
  have HA := Lib.hid hu
  have HB := Lib.hid hv
  clear hu hv
  by_cases hl : L.length = M.length
  · have hlB : ((L.length : Int) != M.length) = false := by simp [hl]
    go_enter Tryd.func36, Tryd.ntmps36
    rw [hl]
    go_wp2
    go_loopg [13] (M.length + 1) (fun gg v13 wr => ∃ i : Nat, v13 = .int .i64 (i : Int) ∧ i ≤ M.length ∧ M.length - i < gg ∧ L.take i = M.take i ∧ Below w.heap.size w wr)
    case atStart => exact ⟨0, rfl, Nat.zero_le _, by omega, rfl, Below.refl _ _⟩
    case round =>
      obtain ⟨i, rfl, hi, hig, he, hb⟩ := hrel
      have HG := Lib.hid hig
      have HE := Lib.hid he
      have HBW := Lib.hid hb
      clear hig he hb
      by_cases hlt : i < M.length
      · have hltI : (i : Int) < M.length := by omega
        obtain ⟨⟨n, s⟩, hx⟩ : ∃ x, L[i]? = some x := ⟨L[i]'(by omega), List.getElem?_eq_getElem _⟩
        obtain ⟨⟨m, t⟩, hy⟩ : ∃ y, M[i]? = some y := ⟨M[i], List.getElem?_eq_getElem hlt⟩
        obtain ⟨A, rfl, c0, c1⟩ := (HA.out.below HBW.out) i n s hx
        obtain ⟨B, rfl, d0, d1⟩ := (HB.out.below HBW.out) i m t hy
        have c2 : wr.cell? ⟨(A.add (i * 2)).block, (A.add (i * 2)).off + 1, none⟩ = some (.string s) := by rw [addr_next]; exact c1
        have d2 : wr.cell? ⟨(B.add (i * 2)).block, (B.add (i * 2)).off + 1, none⟩ = some (.string t) := by rw [addr_next]; exact d1
        have HX := Lib.hid (And.intro (take_sn hx) (take_sn hy))
        have HXY := Lib.hid (And.intro hx hy)
        clear hx hy c1 d1
        by_cases hxy : eqI n s m t = true
        · have HXE := Lib.hid (eqI_iff.1 hxy)
          have hb1 : (!eqI n s m t) = false := by rw [hxy]; rfl
          clear hxy
          go_wp2_with fail
          go_quiet (fail)
          go_wp2
          go_roundg (M.length - i)
          case rel => exact ⟨i + 1, by go_num, by omega, by omega, by rw [HX.out.1, HX.out.2, HE.out, HXE.out.1, HXE.out.2], below_drA HBW.out⟩
          case measure => have := HG.out; omega
        · have hb1 : eqI n s m t = false := by simpa using hxy
          have HF := Lib.hid (show decide (L = M) = false from decide_eq_false fun e => by
            have := HXY.out
            rw [e, this.2] at this
            have h2 := Option.some.inj this.1
            exact hxy (eqI_iff.2 ⟨(congrArg Prod.fst h2).symm, (congrArg Prod.snd h2).symm⟩))
          clear hxy
          go_wp2_with fail
          go_quiet (fail)
          go_wp2
          go_ret
          exact ⟨by rw [HF.out]; rfl, below_drA HBW.out⟩
      · obtain rfl : i = M.length := by omega
        have hB : decide ((M.length : Int) < M.length) = false := by simp
        have HF := Lib.hid (show decide (L = M) = true from decide_eq_true (by
          have := HE.out
          rwa [List.take_length, ← hl, List.take_length] at this))
        go_wp2
        go_ret
        exact ⟨by rw [HF.out]; rfl, HBW.out⟩
  · have hlB : ((L.length : Int) != M.length) = true := by simp; omega
    have hlN : ¬ (L.length : Int) = M.length := by omega
    have HF := Lib.hid (show decide (L = M) = false from decide_eq_false fun e => hl (by rw [e]))
    go_enter Tryd.func36, Tryd.ntmps36
    go_wp2
    go_ret
    exact ⟨by rw [HF.out]; rfl, Below.refl _ _⟩
set_option maxRecDepth 100000 in
set_option maxHeartbeats 1600000 in
theorem eqRow_any : Calls Tryd.prog 33 #[.slice a L.length c, .slice b M.length d] w fun e w' => e = .returned (.bool (decide (L = M))) ∧ Below w.heap.size w w' := by
  have HA := Lib.hid hu
  have HB := Lib.hid hv
  clear hu hv
  by_cases hl : L.length = M.length
  · have hlB : ((L.length : Int) != M.length) = false := by simp [hl]
    go_enter Tryd.func33, Tryd.ntmps33
    rw [hl]
    go_wp2
    go_loopg [5] (M.length + 1) (fun gg v13 wr => ∃ i : Nat, v13 = .int .i64 (i : Int) ∧ i ≤ M.length ∧ M.length - i < gg ∧ L.take i = M.take i ∧ Below w.heap.size w wr)
    case atStart => exact ⟨0, rfl, Nat.zero_le _, by omega, rfl, Below.refl _ _⟩
    case round =>
      obtain ⟨i, rfl, hi, hig, he, hb⟩ := hrel
      have HG := Lib.hid hig
      have HE := Lib.hid he
      have HBW := Lib.hid hb
      clear hig he hb
      by_cases hlt : i < M.length
      · have hltI : (i : Int) < M.length := by omega
        obtain ⟨⟨n, s⟩, hx⟩ : ∃ x, L[i]? = some x := ⟨L[i]'(by omega), List.getElem?_eq_getElem _⟩
        obtain ⟨⟨m, t⟩, hy⟩ : ∃ y, M[i]? = some y := ⟨M[i], List.getElem?_eq_getElem hlt⟩
        obtain ⟨A, rfl, c0, c1⟩ := (HA.out.below HBW.out) i n s hx
        obtain ⟨B, rfl, d0, d1⟩ := (HB.out.below HBW.out) i m t hy
        have c2 : wr.cell? ⟨(A.add (i * 2)).block, (A.add (i * 2)).off + 1, none⟩ = some (.string s) := by rw [addr_next]; exact c1
        have d2 : wr.cell? ⟨(B.add (i * 2)).block, (B.add (i * 2)).off + 1, none⟩ = some (.string t) := by rw [addr_next]; exact d1
        have HX := Lib.hid (And.intro (take_sn hx) (take_sn hy))
        have HXY := Lib.hid (And.intro hx hy)
        clear hx hy c1 d1
        by_cases hxy : eqI n s m t = true
        · have HXE := Lib.hid (eqI_iff.1 hxy)
          have hb1 : (!eqI n s m t) = false := by rw [hxy]; rfl
          clear hxy
          go_wp2_with fail
          go_quiet (fail)
          go_wp2
          go_roundg (M.length - i)
          case rel => exact ⟨i + 1, by go_num, by omega, by omega, by rw [HX.out.1, HX.out.2, HE.out, HXE.out.1, HXE.out.2], below_drA HBW.out⟩
          case measure => have := HG.out; omega
        · have hb1 : eqI n s m t = false := by simpa using hxy
          have HF := Lib.hid (show decide (L = M) = false from decide_eq_false fun e => by
            have := HXY.out
            rw [e, this.2] at this
            have h2 := Option.some.inj this.1
            exact hxy (eqI_iff.2 ⟨(congrArg Prod.fst h2).symm, (congrArg Prod.snd h2).symm⟩))
          clear hxy
          go_wp2_with fail
          go_quiet (fail)
          go_wp2
          go_ret
          exact ⟨by rw [HF.out]; rfl, below_drA HBW.out⟩
      · obtain rfl : i = M.length := by omega
        have hB : decide ((M.length : Int) < M.length) = false := by simp
        have HF := Lib.hid (show decide (L = M) = true from decide_eq_true (by
          have := HE.out
          rwa [List.take_length, ← hl, List.take_length] at this))
        go_wp2
        go_ret
        exact ⟨by rw [HF.out]; rfl, HBW.out⟩
  · have hlB : ((L.length : Int) != M.length) = true := by simp; omega
    have hlN : ¬ (L.length : Int) = M.length := by omega
    have HF := Lib.hid (show decide (L = M) = false from decide_eq_false fun e => hl (by rw [e]))
    go_enter Tryd.func33, Tryd.ntmps33
    go_wp2
    go_ret
    exact ⟨by rw [HF.out]; rfl, Below.refl _ _⟩
set_option maxRecDepth 100000 in
set_option maxHeartbeats 1600000 in
theorem eqC1_any : Calls Tryd.prog 35 #[.slice a L.length c, .slice b M.length d] w fun e w' => e = .returned (.bool (decide (L = M))) ∧ Below w.heap.size w w' := by
  have H := Lib.hid (eqIs_any a b c d L M hL w hu hv)
  clear hu hv
  obtain ⟨r, hr⟩ : ∃ r, decide (L = M) = r := ⟨_, rfl⟩
  rw [hr] at H ⊢
  clear hr
  go_enter Tryd.func35, Tryd.ntmps35
  go_wp2_with fail
  refine H.out.mono ?_
  rintro e w1 ⟨rfl, hb⟩
  go_wp2
  go_ret
  exact ⟨rfl, hb⟩
end
set_option maxRecDepth 100000 in
set_option maxHeartbeats 1600000 in
theorem eqFn_any (u v : Value) (M N : List (List (Bool × ByteArray))) (hM : M.length ≤ 1000) (hr : ∀ r ∈ M, r.length ≤ 1000) (w : World) (hu : RwS w u M) (hv : RwS w v N) :
    Calls Tryd.prog 34 #[u, v, .func (.func 35) #[] #[]] w fun e w' => e = .returned (.bool (decide (M = N))) ∧ Below w.heap.size w w' := by
  obtain ⟨A, c, rfl, -, -, hat⟩ := hu
  obtain ⟨B, d, rfl, -, -, hbt⟩ := hv
  have HA := Lib.hid hat
  have HB := Lib.hid hbt
  have HR := Lib.hid hr
  clear hat hbt hr
  by_cases hl : M.length = N.length
  · have hlB : ((M.length : Int) != N.length) = false := by simp [hl]
    go_enter Tryd.func34, Tryd.ntmps34
    rw [hl]
    go_wp2
    go_loopg [17] (N.length + 1) (fun gg v13 wr => ∃ i : Nat, v13 = .int .i64 (i : Int) ∧ i ≤ N.length ∧ N.length - i < gg ∧ M.take i = N.take i ∧ Below w.heap.size w wr)
    case atStart => exact ⟨0, rfl, Nat.zero_le _, by omega, rfl, Below.refl _ _⟩
    case round =>
      obtain ⟨i, rfl, hi, hig, he, hb⟩ := hrel
      have HG := Lib.hid hig
      have HE := Lib.hid he
      have HBW := Lib.hid hb
      clear hig he hb
      by_cases hlt : i < N.length
      · have hltI : (i : Int) < N.length := by omega
        obtain ⟨x, hx⟩ : ∃ x, M[i]? = some x := ⟨M[i]'(by omega), List.getElem?_eq_getElem _⟩
        obtain ⟨y, hy⟩ : ∃ y, N[i]? = some y := ⟨N[i], List.getElem?_eq_getElem hlt⟩
        obtain ⟨A1, c1, f1, -, -, hs1⟩ := HA.out i x hx
        obtain ⟨B1, d1, f2, -, -, hs2⟩ := HB.out i y hy
        have g1 := (HBW.out.cell (World.block_lt_of_cell? _ _ f1)).trans f1
        have g2 := (HBW.out.cell (World.block_lt_of_cell? _ _ f2)).trans f2
        have HC := Lib.hid (fun W (h : Below w.heap.size w W) => eqC1_any (some A1) (some B1) c1 d1 x y (HR.out x (List.mem_of_getElem? hx)) W (hs1.below h) (hs2.below h))
        have HX := Lib.hid (show M.take (i + 1) = M.take i ++ [x] ∧ N.take (i + 1) = N.take i ++ [y] from ⟨by rw [List.take_add_one, hx]; rfl, by rw [List.take_add_one, hy]; rfl⟩)
        have HXY := Lib.hid (And.intro hx hy)
        clear hx hy f1 f2 hs1 hs2
        by_cases hxy : x = y
        · have HXE := Lib.hid hxy
          have hD : decide (x = y) = true := decide_eq_true hxy
          rw [hD] at HC
          clear hxy hD
          go_wp2_with fail
          refine (HC.out wr HBW.out).mono ?_
          rintro e w1 ⟨rfl, hb1⟩
          have HB3 := Lib.hid (bstep HBW.out hb1)
          clear hb1
          go_wp2
          go_roundg (N.length - i)
          case rel => exact ⟨i + 1, by go_num, by omega, by omega, by rw [HX.out.1, HX.out.2, HE.out, HXE.out], HB3.out⟩
          case measure => have := HG.out; omega
        · have hD : decide (x = y) = false := decide_eq_false hxy
          rw [hD] at HC
          have HF := Lib.hid (show decide (M = N) = false from decide_eq_false fun e => by
            have := HXY.out
            rw [e, this.2] at this
            exact hxy (Option.some.inj this.1).symm)
          clear hxy hD
          go_wp2_with fail
          refine (HC.out wr HBW.out).mono ?_
          rintro e w1 ⟨rfl, hb1⟩
          have HB3 := Lib.hid (bstep HBW.out hb1)
          clear hb1
          go_wp2
          go_ret
          exact ⟨by rw [HF.out]; rfl, HB3.out⟩
      · obtain rfl : i = N.length := by omega
        have hB : decide ((N.length : Int) < N.length) = false := by simp
        have HF := Lib.hid (show decide (M = N) = true from decide_eq_true (by
          have := HE.out
          rwa [List.take_length, ← hl, List.take_length] at this))
        go_wp2
        go_ret
        exact ⟨by rw [HF.out]; rfl, HBW.out⟩
  · have hlB : ((M.length : Int) != N.length) = true := by simp; omega
    have hlN : ¬ (M.length : Int) = N.length := by omega
    have HF := Lib.hid (show decide (M = N) = false from decide_eq_false fun e => hl (by rw [e]))
    go_enter Tryd.func34, Tryd.ntmps34
    go_wp2
    go_ret
    exact ⟨by rw [HF.out]; rfl, Below.refl _ _⟩
set_option maxRecDepth 100000 in
set_option maxHeartbeats 1600000 in
theorem sameM_any (u v : Value) (M N : List (List (Bool × ByteArray))) (hM : M.length ≤ 1000) (hr : ∀ r ∈ M, r.length ≤ 1000) (w : World) (hu : RwS w u M) (hv : RwS w v N) :
    Calls Tryd.prog 17 #[u, v] w fun e w' => e = .returned (.bool (decide (M = N))) ∧ Below w.heap.size w w' := by
  obtain ⟨A, c, rfl, -, -, hat⟩ := hu
  obtain ⟨B, d, rfl, -, -, hbt⟩ := hv
  have HA := Lib.hid hat
  have HB := Lib.hid hbt
  have HR := Lib.hid hr
  clear hat hbt hr
  by_cases hl : M.length = N.length
  · have hlB : ((M.length : Int) != N.length) = false := by simp [hl]
    go_enter Tryd.func17, Tryd.ntmps17
    rw [hl]
    go_wp2
    go_loopg [5] (N.length + 1) (fun gg v13 wr => ∃ i : Nat, v13 = .int .i64 (i : Int) ∧ i ≤ N.length ∧ N.length - i < gg ∧ M.take i = N.take i ∧ Below w.heap.size w wr)
    case atStart => exact ⟨0, rfl, Nat.zero_le _, by omega, rfl, Below.refl _ _⟩
    case round =>
      obtain ⟨i, rfl, hi, hig, he, hb⟩ := hrel
      have HG := Lib.hid hig
      have HE := Lib.hid he
      have HBW := Lib.hid hb
      clear hig he hb
      by_cases hlt : i < N.length
      · have hltI : (i : Int) < N.length := by omega
        obtain ⟨x, hx⟩ : ∃ x, M[i]? = some x := ⟨M[i]'(by omega), List.getElem?_eq_getElem _⟩
        obtain ⟨y, hy⟩ : ∃ y, N[i]? = some y := ⟨N[i], List.getElem?_eq_getElem hlt⟩
        obtain ⟨A1, c1, f1, -, -, hs1⟩ := HA.out i x hx
        obtain ⟨B1, d1, f2, -, -, hs2⟩ := HB.out i y hy
        have g1 := (HBW.out.cell (World.block_lt_of_cell? _ _ f1)).trans f1
        have g2 := (HBW.out.cell (World.block_lt_of_cell? _ _ f2)).trans f2
        have HC := Lib.hid (fun W (h : Below w.heap.size w W) => eqRow_any (some A1) (some B1) c1 d1 x y (HR.out x (List.mem_of_getElem? hx)) W (hs1.below h) (hs2.below h))
        have HX := Lib.hid (show M.take (i + 1) = M.take i ++ [x] ∧ N.take (i + 1) = N.take i ++ [y] from ⟨by rw [List.take_add_one, hx]; rfl, by rw [List.take_add_one, hy]; rfl⟩)
        have HXY := Lib.hid (And.intro hx hy)
        clear hx hy f1 f2 hs1 hs2
        by_cases hxy : x = y
        · have HXE := Lib.hid hxy
          have hD : decide (x = y) = true := decide_eq_true hxy
          rw [hD] at HC
          clear hxy hD
          go_wp2_with fail
          haveI := cls_some wr
          have k1 : ∀ u : Cl wr, u.x.cell? (A.add i) = some (.slice (some A1) x.length c1) := fun u => (u.h.cell (World.block_lt_of_cell? _ _ g1)).trans g1
          have k2 : ∀ u : Cl wr, u.x.cell? (B.add i) = some (.slice (some B1) y.length d1) := fun u => (u.h.cell (World.block_lt_of_cell? _ _ g2)).trans g2
          clear g1 g2
          refine wp_region_cls (by kernel_rfl) ?_
          iterate 8 (go_big_quiet_step (fail))
          go_big_quiet_step ((go_at_call 33; exact quiet_clsB HBW.out HC.out _))
          iterate 1 (go_big_quiet_step (fail))
          refine wpQuiet_nil ?_
          intro w1 hw1
          obtain ⟨u1, rfl⟩ := hw1
          have HB3 := Lib.hid (bstep HBW.out u1.h)
          go_wp2
          go_roundg (N.length - i)
          case rel => exact ⟨i + 1, by go_num, by omega, by omega, by rw [HX.out.1, HX.out.2, HE.out, HXE.out], HB3.out⟩
          case measure => have := HG.out; omega
        · have hD : decide (x = y) = false := decide_eq_false hxy
          rw [hD] at HC
          have HF := Lib.hid (show decide (M = N) = false from decide_eq_false fun e => by
            have := HXY.out
            rw [e, this.2] at this
            exact hxy (Option.some.inj this.1).symm)
          clear hxy hD
          go_wp2_with fail
          haveI := cls_some wr
          have k1 : ∀ u : Cl wr, u.x.cell? (A.add i) = some (.slice (some A1) x.length c1) := fun u => (u.h.cell (World.block_lt_of_cell? _ _ g1)).trans g1
          have k2 : ∀ u : Cl wr, u.x.cell? (B.add i) = some (.slice (some B1) y.length d1) := fun u => (u.h.cell (World.block_lt_of_cell? _ _ g2)).trans g2
          clear g1 g2
          refine wp_region_cls (by kernel_rfl) ?_
          iterate 8 (go_big_quiet_step (fail))
          go_big_quiet_step ((go_at_call 33; exact quiet_clsB HBW.out HC.out _))
          iterate 1 (go_big_quiet_step (fail))
          refine wpQuiet_nil ?_
          intro w1 hw1
          obtain ⟨u1, rfl⟩ := hw1
          have HB3 := Lib.hid (bstep HBW.out u1.h)
          go_wp2
          go_ret
          exact ⟨by rw [HF.out]; rfl, HB3.out⟩
      · obtain rfl : i = N.length := by omega
        have hB : decide ((N.length : Int) < N.length) = false := by simp
        have HF := Lib.hid (show decide (M = N) = true from decide_eq_true (by
          have := HE.out
          rwa [List.take_length, ← hl, List.take_length] at this))
        go_wp2
        go_ret
        exact ⟨by rw [HF.out]; rfl, HBW.out⟩
  · have hlB : ((M.length : Int) != N.length) = true := by simp; omega
    have hlN : ¬ (M.length : Int) = N.length := by omega
    have HF := Lib.hid (show decide (M = N) = false from decide_eq_false fun e => hl (by rw [e]))
    go_enter Tryd.func17, Tryd.ntmps17
    go_wp2
    go_ret
    exact ⟨by rw [HF.out]; rfl, Below.refl _ _⟩
end Go.Proofs.Gv
