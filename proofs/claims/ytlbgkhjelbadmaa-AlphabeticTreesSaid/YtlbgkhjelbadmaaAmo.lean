/- slices.IsSortedFunc, alphabetic.Monotone. -/
import Derived.Test.YtlbgkhjelbadmaaAcsP
set_option linter.unusedSimpArgs false
set_option linter.unusedVariables false
namespace Go.Proofs.Gv
open Go Go.RowKit Go.Maps

def upB (Ws : List Nat) : Bool := (List.range (Ws.length - 1)).all fun j => decide (Ws.getD j 0 ≤ Ws.getD (j + 1) 0)
def dnB (Ws : List Nat) : Bool := (List.range (Ws.length - 1)).all fun j => decide (Ws.getD (j + 1) 0 ≤ Ws.getD j 0)
theorem mono1_any {x y : Nat} (hx : x < 2 ^ 64) (hy : y < 2 ^ 64) (w : World) :
    Calls Try.prog 62 #[.agg #[.bool false, .string (mg y)], .agg #[.bool false, .string (mg x)]] w fun e w' => e = .returned (.int .i64 (cmpI (x : Int) (y : Int))) ∧ Below w.heap.size w w' := by
  have HC := Lib.hid (fun W => cCmpN (x := x) (d := y) 64 64 hx hy (by decide) (by decide) W)
  have hB0 : Below w.heap.size w ((w.alloc (.cells #[.bool false, .string (mg y)] 37)).alloc (.cells #[.bool false, .string (mg x)] 37)) := ((Below.refl w.heap.size w).alloc (Nat.le_refl _) _).alloc (by simp) _
  obtain ⟨q, hq⟩ : ∃ q, cmpI (x : Int) (y : Int) = q := ⟨_, rfl⟩
  rw [hq] at HC ⊢
  have HB0 := Lib.hid hB0
  clear hq hB0 hx hy
  go_enter Try.func62, Try.ntmps62
  go_wp2_with fail
  refine (HC.out _).mono ?_
  rintro e w1 ⟨rfl, hb⟩
  go_wp2
  go_ret
  exact ⟨rfl, bstep HB0.out hb⟩
section
variable (A : Addr) (cap : Nat) (Ws : List Nat) (h2 : 2 ≤ Ws.length) (h64 : Ws.length ≤ 64) (hz : ∀ z ∈ Ws, z < 2 ^ 64)
include h2 h64 hz
set_option maxRecDepth 100000 in
set_option maxHeartbeats 4000000 in
theorem sortU_any (w : World) (hS : Sl w (some A) (VL Ws)) :
    Calls Try.prog 61 #[.slice (some A) Ws.length cap, .func (.func 20) #[] #[]] w fun e w' => e = .returned (.bool (upB Ws)) ∧ Below w.heap.size w w' := by
  have HZ := Lib.hid hz
  have HS := Lib.hid hS
  obtain ⟨n, hn⟩ : ∃ n, Ws.length = n := ⟨_, rfl⟩
  have HNN := Lib.hid hn
  obtain ⟨m, hm⟩ : ∃ m, n - 1 = m := ⟨_, rfl⟩
  have hmI : (n : Int) - 1 = (m : Int) := by omega
  have HM := Lib.hid (show m + 1 = n by omega)
  rw [hn] at h64 ⊢
  clear hz hS hn hm h2
  go_enter Try.func61, Try.ntmps61
  go_wp2_with fail
  go_loopg [5] (n + 1) (fun gg v5 wr => ∃ i : Nat, v5 = .int .i64 (i : Int) ∧ i ≤ m ∧ i < gg ∧ (∀ j, i ≤ j → j < m → Ws.getD j 0 ≤ Ws.getD (j + 1) 0) ∧ Below w.heap.size w wr)
  case atStart => exact ⟨m, by go_num, Nat.le_refl _, by have := HM.out; omega, fun j h1 h2 => by omega, Below.refl _ _⟩
  case round =>
    obtain ⟨i, rfl, hi, hig, he, hb⟩ := hrel
    have HG := Lib.hid hig
    have HE := Lib.hid he
    have HB := Lib.hid hb
    clear hig he hb
    by_cases h0 : i = 0
    · subst h0
      have HF := Lib.hid (show upB Ws = true from by
        unfold upB
        refine List.all_eq_true.2 fun j hj => decide_eq_true (HE.out j (Nat.zero_le _) ?_)
        have := List.mem_range.1 hj
        rw [HNN.out] at this
        have := HM.out
        omega)
      go_wp2
      go_ret
      exact ⟨by rw [HF.out]; rfl, HB.out⟩
    · obtain ⟨r, hr⟩ : ∃ r, i - 1 = r := ⟨_, rfl⟩
      have hrI : (i : Int) - 1 = (r : Int) := by omega
      have hi0 : (0 : Int) < i := by omega
      have hin : (i : Int) < n := by have := HM.out; omega
      have hrn : (r : Int) < n := by omega
      have hr0 : (0 : Int) ≤ r := by omega
      have hr64 : r < 64 := by omega
      have hi64 : i < 64 := by omega
      have HR := Lib.hid (show r + 1 = i by omega)
      obtain ⟨x, hx⟩ : ∃ x, Ws[r]? = some x := ⟨Ws[r]'(by have := HNN.out; omega), List.getElem?_eq_getElem _⟩
      obtain ⟨y, hy⟩ : ∃ y, Ws[i]? = some y := ⟨Ws[i]'(by have := HNN.out; omega), List.getElem?_eq_getElem _⟩
      obtain ⟨A1, e1, c0, c1⟩ := (HS.out.below HB.out) r false (mg x) (VL_at hx)
      cases e1
      obtain ⟨A1, e1, d0, d1⟩ := (HS.out.below HB.out) i false (mg y) (VL_at hy)
      cases e1
      have k0 : ∀ u : Cl wr, u.x.cell? (A.add (r * 2)) = some (.bool false) := fun u => (u.h.cell (World.block_lt_of_cell? _ _ c0)).trans c0
      have k1 : ∀ u : Cl wr, u.x.cell? (A.add (r * 2 + 1)) = some (.string (mg x)) := fun u => (u.h.cell (World.block_lt_of_cell? _ _ c1)).trans c1
      have k2 : ∀ u : Cl wr, u.x.cell? ⟨(A.add (r * 2)).block, (A.add (r * 2)).off + 1, none⟩ = some (.string (mg x)) := fun u => by rw [addr_next]; exact k1 u
      have l0 : ∀ u : Cl wr, u.x.cell? (A.add (i * 2)) = some (.bool false) := fun u => (u.h.cell (World.block_lt_of_cell? _ _ d0)).trans d0
      have l1 : ∀ u : Cl wr, u.x.cell? (A.add (i * 2 + 1)) = some (.string (mg y)) := fun u => (u.h.cell (World.block_lt_of_cell? _ _ d1)).trans d1
      have l2 : ∀ u : Cl wr, u.x.cell? ⟨(A.add (i * 2)).block, (A.add (i * 2)).off + 1, none⟩ = some (.string (mg y)) := fun u => by rw [addr_next]; exact l1 u
      have hxz := HZ.out x (List.mem_of_getElem? hx)
      have hyz := HZ.out y (List.mem_of_getElem? hy)
      have HC := Lib.hid (fun X => cCmpN (x := y) (d := x) 64 64 hyz hxz (by decide) (by decide) X)
      have HXY := Lib.hid (show Ws.getD r 0 = x ∧ Ws.getD (r + 1) 0 = y from ⟨by rw [List.getD_eq_getElem?_getD, hx]; rfl, by rw [HR.out, List.getD_eq_getElem?_getD, hy]; rfl⟩)
      have HQ := Lib.hid (show cmpI (y : Int) (x : Int) < 0 ↔ ¬ (x ≤ y) from by
        have := cmpI_lt0 (y : Int) (x : Int)
        rw [decide_eq_decide] at this
        rw [this]
        omega)
      obtain ⟨q, hq⟩ : ∃ q, cmpI (y : Int) (x : Int) = q := ⟨_, rfl⟩
      rw [hq] at HC HQ
      haveI := cls_some wr
      clear hq hxz hyz hx hy c0 c1 d0 d1 k1 l1 hr
      by_cases hq0 : q < 0
      · have HNO := Lib.hid (HQ.out.1 hq0)
        have HF := Lib.hid (show upB Ws = false from by
          cases h : upB Ws with
          | false => rfl
          | true =>
            exfalso
            unfold upB at h
            have := of_decide_eq_true (List.all_eq_true.1 h r (List.mem_range.2 (by have := HNN.out; have := HM.out; have := HR.out; omega)))
            rw [HXY.out.1, HXY.out.2] at this
            exact HNO.out this)
        go_wp2_with fail
        refine wp_region_cls (by kernel_rfl) ?_
        iterate 10 (go_big_quiet_step (fail))
        go_big_quiet_step ((go_at_call 20; exact quiet_cls HC.out _))
        iterate 1 (go_big_quiet_step (fail))
        refine wpQuiet_nil ?_
        intro w7 hw7
        obtain ⟨u7, rfl⟩ := hw7
        go_wp2
        go_ret
        exact ⟨by rw [HF.out]; rfl, bstep HB.out u7.h⟩
      · have HYES := Lib.hid (show x ≤ y from Decidable.byContradiction fun h => hq0 (HQ.out.2 h))
        have hqd : decide (q < 0) = false := decide_eq_false hq0
        clear hq0
        go_wp2_with fail
        refine wp_region_cls (by kernel_rfl) ?_
        iterate 10 (go_big_quiet_step (fail))
        go_big_quiet_step ((go_at_call 20; exact quiet_cls HC.out _))
        iterate 1 (go_big_quiet_step (fail))
        refine wpQuiet_nil ?_
        intro w7 hw7
        obtain ⟨u7, rfl⟩ := hw7
        have HB7 := Lib.hid (bstep HB.out u7.h)
        go_wp2
        go_roundg i
        case rel =>
          refine ⟨r, by go_num, by have := HR.out; omega, by have := HR.out; omega, fun j h1 h2 => ?_, HB7.out⟩
          by_cases hj : j = r
          · rw [hj, HXY.out.1, HXY.out.2]; exact HYES.out
          · exact HE.out j (by have := HR.out; omega) h2
        case measure => have := HG.out; omega
set_option maxRecDepth 100000 in
set_option maxHeartbeats 4000000 in
theorem sortD_any (w : World) (hS : Sl w (some A) (VL Ws)) :
    Calls Try.prog 61 #[.slice (some A) Ws.length cap, .func (.func 62) #[] #[]] w fun e w' => e = .returned (.bool (dnB Ws)) ∧ Below w.heap.size w w' := by
  have HZ := Lib.hid hz
  have HS := Lib.hid hS
  obtain ⟨n, hn⟩ : ∃ n, Ws.length = n := ⟨_, rfl⟩
  have HNN := Lib.hid hn
  obtain ⟨m, hm⟩ : ∃ m, n - 1 = m := ⟨_, rfl⟩
  have hmI : (n : Int) - 1 = (m : Int) := by omega
  have HM := Lib.hid (show m + 1 = n by omega)
  rw [hn] at h64 ⊢
  clear hz hS hn hm h2
  go_enter Try.func61, Try.ntmps61
  go_wp2_with fail
  go_loopg [5] (n + 1) (fun gg v5 wr => ∃ i : Nat, v5 = .int .i64 (i : Int) ∧ i ≤ m ∧ i < gg ∧ (∀ j, i ≤ j → j < m → Ws.getD (j + 1) 0 ≤ Ws.getD j 0) ∧ Below w.heap.size w wr)
  case atStart => exact ⟨m, by go_num, Nat.le_refl _, by have := HM.out; omega, fun j h1 h2 => by omega, Below.refl _ _⟩
  case round =>
    obtain ⟨i, rfl, hi, hig, he, hb⟩ := hrel
    have HG := Lib.hid hig
    have HE := Lib.hid he
    have HB := Lib.hid hb
    clear hig he hb
    by_cases h0 : i = 0
    · subst h0
      have HF := Lib.hid (show dnB Ws = true from by
        unfold dnB
        refine List.all_eq_true.2 fun j hj => decide_eq_true (HE.out j (Nat.zero_le _) ?_)
        have := List.mem_range.1 hj
        rw [HNN.out] at this
        have := HM.out
        omega)
      go_wp2
      go_ret
      exact ⟨by rw [HF.out]; rfl, HB.out⟩
    · obtain ⟨r, hr⟩ : ∃ r, i - 1 = r := ⟨_, rfl⟩
      have hrI : (i : Int) - 1 = (r : Int) := by omega
      have hi0 : (0 : Int) < i := by omega
      have hin : (i : Int) < n := by have := HM.out; omega
      have hrn : (r : Int) < n := by omega
      have hr0 : (0 : Int) ≤ r := by omega
      have hr64 : r < 64 := by omega
      have hi64 : i < 64 := by omega
      have HR := Lib.hid (show r + 1 = i by omega)
      obtain ⟨x, hx⟩ : ∃ x, Ws[r]? = some x := ⟨Ws[r]'(by have := HNN.out; omega), List.getElem?_eq_getElem _⟩
      obtain ⟨y, hy⟩ : ∃ y, Ws[i]? = some y := ⟨Ws[i]'(by have := HNN.out; omega), List.getElem?_eq_getElem _⟩
      obtain ⟨A1, e1, c0, c1⟩ := (HS.out.below HB.out) r false (mg x) (VL_at hx)
      cases e1
      obtain ⟨A1, e1, d0, d1⟩ := (HS.out.below HB.out) i false (mg y) (VL_at hy)
      cases e1
      have k0 : ∀ u : Cl wr, u.x.cell? (A.add (r * 2)) = some (.bool false) := fun u => (u.h.cell (World.block_lt_of_cell? _ _ c0)).trans c0
      have k1 : ∀ u : Cl wr, u.x.cell? (A.add (r * 2 + 1)) = some (.string (mg x)) := fun u => (u.h.cell (World.block_lt_of_cell? _ _ c1)).trans c1
      have k2 : ∀ u : Cl wr, u.x.cell? ⟨(A.add (r * 2)).block, (A.add (r * 2)).off + 1, none⟩ = some (.string (mg x)) := fun u => by rw [addr_next]; exact k1 u
      have l0 : ∀ u : Cl wr, u.x.cell? (A.add (i * 2)) = some (.bool false) := fun u => (u.h.cell (World.block_lt_of_cell? _ _ d0)).trans d0
      have l1 : ∀ u : Cl wr, u.x.cell? (A.add (i * 2 + 1)) = some (.string (mg y)) := fun u => (u.h.cell (World.block_lt_of_cell? _ _ d1)).trans d1
      have l2 : ∀ u : Cl wr, u.x.cell? ⟨(A.add (i * 2)).block, (A.add (i * 2)).off + 1, none⟩ = some (.string (mg y)) := fun u => by rw [addr_next]; exact l1 u
      have hxz := HZ.out x (List.mem_of_getElem? hx)
      have hyz := HZ.out y (List.mem_of_getElem? hy)
      have HC := Lib.hid (fun X => mono1_any hxz hyz X)
      have HXY := Lib.hid (show Ws.getD r 0 = x ∧ Ws.getD (r + 1) 0 = y from ⟨by rw [List.getD_eq_getElem?_getD, hx]; rfl, by rw [HR.out, List.getD_eq_getElem?_getD, hy]; rfl⟩)
      have HQ := Lib.hid (show cmpI (x : Int) (y : Int) < 0 ↔ ¬ (y ≤ x) from by
        have := cmpI_lt0 (x : Int) (y : Int)
        rw [decide_eq_decide] at this
        rw [this]
        omega)
      obtain ⟨q, hq⟩ : ∃ q, cmpI (x : Int) (y : Int) = q := ⟨_, rfl⟩
      rw [hq] at HC HQ
      haveI := cls_some wr
      clear hq hxz hyz hx hy c0 c1 d0 d1 k1 l1 hr
      by_cases hq0 : q < 0
      · have HNO := Lib.hid (HQ.out.1 hq0)
        have HF := Lib.hid (show dnB Ws = false from by
          cases h : dnB Ws with
          | false => rfl
          | true =>
            exfalso
            unfold dnB at h
            have := of_decide_eq_true (List.all_eq_true.1 h r (List.mem_range.2 (by have := HNN.out; have := HM.out; have := HR.out; omega)))
            rw [HXY.out.1, HXY.out.2] at this
            exact HNO.out this)
        go_wp2_with fail
        refine wp_region_cls (by kernel_rfl) ?_
        iterate 10 (go_big_quiet_step (fail))
        go_big_quiet_step ((go_at_call 62; exact quiet_cls HC.out _))
        iterate 1 (go_big_quiet_step (fail))
        refine wpQuiet_nil ?_
        intro w7 hw7
        obtain ⟨u7, rfl⟩ := hw7
        go_wp2
        go_ret
        exact ⟨by rw [HF.out]; rfl, bstep HB.out u7.h⟩
      · have HYES := Lib.hid (show y ≤ x from Decidable.byContradiction fun h => hq0 (HQ.out.2 h))
        have hqd : decide (q < 0) = false := decide_eq_false hq0
        clear hq0
        go_wp2_with fail
        refine wp_region_cls (by kernel_rfl) ?_
        iterate 10 (go_big_quiet_step (fail))
        go_big_quiet_step ((go_at_call 62; exact quiet_cls HC.out _))
        iterate 1 (go_big_quiet_step (fail))
        refine wpQuiet_nil ?_
        intro w7 hw7
        obtain ⟨u7, rfl⟩ := hw7
        have HB7 := Lib.hid (bstep HB.out u7.h)
        go_wp2
        go_roundg i
        case rel =>
          refine ⟨r, by go_num, by have := HR.out; omega, by have := HR.out; omega, fun j h1 h2 => ?_, HB7.out⟩
          by_cases hj : j = r
          · rw [hj, HXY.out.1, HXY.out.2]; exact HYES.out
          · exact HE.out j (by have := HR.out; omega) h2
        case measure => have := HG.out; omega
end
set_option maxRecDepth 100000 in
set_option maxHeartbeats 1600000 in
theorem mono_ok (A : Addr) (cap : Nat) (Ws : List Nat) (h2 : 2 ≤ Ws.length) (h64 : Ws.length ≤ 64) (hz : ∀ z ∈ Ws, z < 2 ^ 64) (w : World) (hS : Sl w (some A) (VL Ws)) :
    Calls Try.prog 32 #[.slice (some A) Ws.length cap] w fun e w' => e = .returned (.tuple #[.bool (upB Ws || dnB Ws), .int .i64 0]) ∧ Below w.heap.size w w' := by
  have HCK := Lib.hid (checkV_any A cap Ws h2 h64 hz w hS)
  have HU := Lib.hid (fun W (h : Below w.heap.size w W) => sortU_any A cap Ws h2 h64 hz W (hS.below h))
  have HD := Lib.hid (fun W (h : Below w.heap.size w W) => sortD_any A cap Ws h2 h64 hz W (hS.below h))
  obtain ⟨n, hn⟩ : ∃ n, Ws.length = n := ⟨_, rfl⟩
  obtain ⟨p, hp⟩ : ∃ p, upB Ws = p := ⟨_, rfl⟩
  obtain ⟨q, hq⟩ : ∃ q, dnB Ws = q := ⟨_, rfl⟩
  rw [hn] at HCK HU HD
  rw [hp] at HU
  rw [hq] at HD
  rw [hn, hp, hq]
  clear hn hp hq hz hS h2 h64
  go_enter Try.func32, Try.ntmps32
  go_wp2_with fail
  refine HCK.out.mono ?_
  rintro e w1 ⟨rfl, hb1⟩
  have HB1 := Lib.hid hb1
  clear hb1
  go_wp2_with fail
  refine (HU.out w1 HB1.out).mono ?_
  rintro e w2 ⟨rfl, hb2⟩
  have HB2 := Lib.hid (bstep HB1.out hb2)
  clear hb2
  cases p with
  | true =>
    go_wp2
    go_ret2
    exact ⟨rfl, HB2.out⟩
  | false =>
    go_wp2_with fail
    refine (HD.out w2 HB2.out).mono ?_
    rintro e w3 ⟨rfl, hb3⟩
    go_wp2
    go_ret2
    exact ⟨rfl, bstep HB2.out hb3⟩
end Go.Proofs.Gv
