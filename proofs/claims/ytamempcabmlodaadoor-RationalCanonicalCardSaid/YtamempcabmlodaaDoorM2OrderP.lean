/- Layer 02: the anchor of the statements. -/
import Derived.Test.YtamempcabmlodaaDoorRatJ3P
import Derived.Test.YtamempcabmlodaaDoorRwawk1
import Derived.Test.YtamempcabmlodaaDoorBoxesP
import Derived.Test.YtamempcabmlodaaDoorLawKitP
import Derived.Test.YtamempcabmlodaaDoorRatTabP
set_option linter.unusedSimpArgs false
set_option linter.unusedVariables false
namespace Go.Proofs.Gv
open Go Go.RowKit

theorem ratP_ex1 : ratP [45, 51, 47, 50] = some (Rat.divInt (-3) 2) := by decide +kernel
theorem ratP_ex2 : ratP [54, 47, 52] = none := by decide +kernel
theorem q10 : Qb 10 (Rat.divInt 1 3) ∧ Qb 10 (Rat.divInt 2 5) ∧ Qb 10 (Rat.divInt 3 10) ∧ Qb 10 (Rat.divInt (-1) 2) ∧ Qb 10 (Rat.divInt 5 1) ∧ Qb 10 (Rat.divInt (-3) 2) :=
  ⟨⟨by decide +kernel, by decide +kernel⟩, ⟨by decide +kernel, by decide +kernel⟩, ⟨by decide +kernel, by decide +kernel⟩, ⟨by decide +kernel, by decide +kernel⟩, ⟨by decide +kernel, by decide +kernel⟩, ⟨by decide +kernel, by decide +kernel⟩⟩
theorem cAwake02 (W : World) : Calls Tryd.prog 11 #[] W fun e w' => e = .returned (.bool true) ∧ Below W.heap.size W w' := by
  obtain ⟨Q1, Q2, Q3, Q4, Q5, Q6⟩ := q10
  have r1 := cRatio (x := 1) (y := 3) (by decide) (by decide) (by decide) (by decide) (by decide)
  have r2 := cRatio (x := 2) (y := 5) (by decide) (by decide) (by decide) (by decide) (by decide)
  have r3 := cRatio (x := 3) (y := 10) (by decide) (by decide) (by decide) (by decide) (by decide)
  have r4 := cRatio (x := -1) (y := 2) (by decide) (by decide) (by decide) (by decide) (by decide)
  have r5 := cRatio (x := 5) (y := 1) (by decide) (by decide) (by decide) (by decide) (by decide)
  have r6 := cRatio (x := 0) (y := 1) (by decide) (by decide) (by decide) (by decide) (by decide)
  have r7 := cRatio (x := 6) (y := -4) (by decide) (by decide) (by decide) (by decide) (by decide)
  rw [Rat.zero_divInt] at r6
  rw [rat_aw4] at r7
  have s1 := fun W => cQSim (Q1.rq (by decide)) (Q2.rq (by decide)) Q1 Q2 (by decide) (by decide +kernel) W
  have s2 := fun W => cQSim (Q3.rq (by decide)) (Q2.rq (by decide)) Q3 Q2 (by decide) (by decide +kernel) W
  have s3 := fun W => cQSim (Q4.rq (by decide)) (Q5.rq (by decide)) Q4 Q5 (by decide) (by decide +kernel) W
  rw [rat_aw1] at s1
  rw [rat_aw2] at s2
  rw [rat_aw3] at s3
  have p1 := fun W => cQParse (s := ⟨#[45, 51, 47, 50]⟩) (by decide) W
  have p2 := fun W => cQParse (s := ⟨#[54, 47, 52]⟩) (by decide) W
  rw [show (⟨#[45, 51, 47, 50]⟩ : ByteArray).data.toList = [45, 51, 47, 50] from rfl, ratP_ex1] at p1
  rw [show (⟨#[54, 47, 52]⟩ : ByteArray).data.toList = [54, 47, 52] from rfl, ratP_ex2] at p2
  have f1 := fun W => cQFloor (Q6.rq (by decide)) W
  rw [rat_aw5] at f1
  have o1 := cOf (-2) (by decide) (by decide)
  have t1 := fun W => cQPrint (Q6.rq (by decide)) W
  rw [ratT_P ratP_ex1] at t1
  have c1 := cQCheckV Q6 (by decide)
  have c2 := fun W => cQCheck (na := false) (ma := false) (sa := ⟨#[]⟩) (ta := ⟨#[]⟩) (a := 0) ⟨by rw [show iv false ⟨#[]⟩ = 0 from Rp.zero.val, Rat.divInt_zero], by decide, by decide⟩ W
  have hne : ¬ eqQ (sgn (0 : Rat).num) (mg (0 : Rat).num.natAbs) false (mg (0 : Rat).den) false ⟨#[]⟩ false ⟨#[]⟩ = true := fun h => by
    have h2 := (eqQ_iff.1 h).2.2
    have h3 := congrArg ByteArray.size h2
    exact absurd h3 (by decide +kernel)
  rw [if_neg hne] at c2
  exact awake_w W r1 r2 s1 r3 s2 r4 r5 s3 p1 p2 r6 r7 f1 o1 t1 c1 c2
end Go.Proofs.Gv

namespace Go.Proofs.Gv
open Go Go.RowKit

set_option maxRecDepth 100000 in
theorem greatInt (na : Bool) (sa : ByteArray) (w : World) (h : sa.size ≤ maxLen) :
    Calls Tryd.prog 33 #[.agg #[.bool na, .string sa]] w fun e w' => e = .returned (.bool (decide (24 < sa.size))) ∧ Below w.heap.size w w' := by
  unfold maxLen at h
  by_cases hc : 24 < sa.size
  · have hI : (24 : Int) < sa.size := by omega
    rw [decide_eq_true hc]
    go_enter Tryd.func33, Tryd.ntmps33
    go_wp2
    go_ret
    exact ⟨rfl, (Below.refl _ _).alloc (Nat.le_refl _) _⟩
  · have hI : decide ((24 : Int) < sa.size) = false := by simp; omega
    have hI2 : decide (24 < sa.size) = false := by simp; omega
    rw [hI2]
    clear hc
    go_enter Tryd.func33, Tryd.ntmps33
    go_wp2
    go_ret
    exact ⟨rfl, (Below.refl _ _).alloc (Nat.le_refl _) _⟩

/-- The rows of numbers that Great is handed. -/
def grQ (k : Nat) (L : List (Bool × ByteArray × Bool × ByteArray)) : Bool := L.any fun x => decide (k < x.2.1.size) || decide (k < x.2.2.2.size)
def cellsQ (L : List (Bool × ByteArray × Bool × ByteArray)) : List Value := L.flatMap fun x => [.bool x.1, .string x.2.1, .bool x.2.2.1, .string x.2.2.2]

set_option maxRecDepth 100000 in
set_option maxHeartbeats 1600000 in
theorem greatQ_any (g : Nat) (L : List (Bool × ByteArray × Bool × ByteArray)) (w : World) (hL : L.length ≤ 1000) (hz : ∀ x ∈ L, x.2.1.size ≤ maxLen ∧ x.2.2.2.size ≤ maxLen) (hg : g < w.heap.size)
    (hc : ∀ i n s m t, L[i]? = some (n, s, m, t) → (w.cell? ⟨g, i * 4, none⟩ = some (.bool n) ∧ w.cell? ⟨g, i * 4 + 1, none⟩ = some (.string s)) ∧ w.cell? ⟨g, i * 4 + 2, none⟩ = some (.bool m) ∧ w.cell? ⟨g, i * 4 + 3, none⟩ = some (.string t)) :
    Calls Tryd.prog 10 #[.slice (some ⟨g, 0, none⟩) L.length L.length] w fun e w' => e = .returned (.bool (grQ 24 L)) ∧ Below w.heap.size w w' := by
  have HZ := Lib.hid hz
  have HC := Lib.hid hc
  clear hz hc
  go_enter Tryd.func10, Tryd.ntmps10
  go_wp2_with fail
  go_loopg [3] (L.length + 1) (fun gg v3 wr => ∃ (k : Nat), v3 = .int .i64 k ∧ k ≤ L.length ∧ L.length + 1 - k ≤ gg ∧ grQ 24 L = grQ 24 (L.drop k) ∧ Below w.heap.size w wr)
  case atStart => exact ⟨0, rfl, by omega, by omega, rfl, Below.refl _ _⟩
  case round =>
    obtain ⟨k, rfl, hk, hm, hgr, hb⟩ := hrel
    have HG := Lib.hid hgr
    have HB := Lib.hid hb
    clear hgr hb
    by_cases hkl : k < L.length
    · have hkI : (k : Int) < L.length := by omega
      obtain ⟨⟨n, s, m, t⟩, hx⟩ : ∃ x, L[k]? = some x := ⟨L[k], List.getElem?_eq_getElem hkl⟩
      have hs := HZ.out _ (List.mem_of_getElem? hx)
      obtain ⟨⟨c0, c1⟩, c2, c3⟩ := HC.out k n s m t hx
      have d0 := (HB.out.cell (p := ⟨g, k * 4, none⟩) hg).trans c0
      have d1 := (HB.out.cell (p := ⟨g, k * 4 + 1, none⟩) hg).trans c1
      have hdrop : grQ 24 (L.drop k) = ((decide (24 < s.size) || decide (24 < t.size)) || grQ 24 (L.drop (k + 1))) := by
        obtain ⟨hj, e⟩ := List.getElem?_eq_some_iff.1 hx
        rw [List.drop_eq_getElem_cons hj, e]
        rfl
      have HD := Lib.hid hdrop
      clear c0 c1 hx hdrop
      have HS := Lib.hid hs
      have HC2 := Lib.hid c2
      have HC3 := Lib.hid c3
      clear hs c2 c3
      by_cases hc : 24 < s.size
      · have HR := Lib.hid (show grQ 24 L = true by rw [HG.out, HD.out, decide_eq_true hc]; rfl)
        have hcd := decide_eq_true hc
        clear hc
        go_wp2_with (go_at_call 33; refine (greatInt n s _ HS.out.1).mono ?_; rintro e w1 ⟨rfl, hb1⟩)
        go_ret
        exact ⟨by rw [HR.out]; rfl, bstep HB.out hb1⟩
      · have hcd : decide (24 < s.size) = false := by simp; omega
        clear hc
        by_cases hc2 : 24 < t.size
        · have HR := Lib.hid (show grQ 24 L = true by rw [HG.out, HD.out, hcd, decide_eq_true hc2]; rfl)
          have hcd2 := decide_eq_true hc2
          clear hc2
          go_wp2_with fail
          refine (greatInt n s _ HS.out.1).mono ?_
          rintro e w1 ⟨rfl, hb1⟩
          have HB1 := Lib.hid (bstep HB.out hb1)
          have d2 := (HB1.out.cell (p := ⟨g, k * 4 + 2, none⟩) hg).trans HC2.out
          have d3 := (HB1.out.cell (p := ⟨g, k * 4 + 3, none⟩) hg).trans HC3.out
          clear hb1 d0 d1
          go_wp2_with fail
          refine (greatInt m t _ HS.out.2).mono ?_
          rintro e w2 ⟨rfl, hb2⟩
          go_wp2
          go_ret
          exact ⟨by rw [HR.out]; rfl, bstep HB1.out hb2⟩
        · have hcd2 : decide (24 < t.size) = false := by simp; omega
          have HR := Lib.hid (show grQ 24 L = grQ 24 (L.drop (k + 1)) by rw [HG.out, HD.out, hcd, hcd2]; rfl)
          clear hc2
          go_wp2_with fail
          refine (greatInt n s _ HS.out.1).mono ?_
          rintro e w1 ⟨rfl, hb1⟩
          have HB1 := Lib.hid (bstep HB.out hb1)
          have d2 := (HB1.out.cell (p := ⟨g, k * 4 + 2, none⟩) hg).trans HC2.out
          have d3 := (HB1.out.cell (p := ⟨g, k * 4 + 3, none⟩) hg).trans HC3.out
          clear hb1 d0 d1
          go_wp2_with fail
          refine (greatInt m t _ HS.out.2).mono ?_
          rintro e w2 ⟨rfl, hb2⟩
          go_wp2
          go_roundg (L.length - k)
          case rel => exact ⟨k + 1, by go_num, by omega, by omega, HR.out, bstep HB1.out hb2⟩
          case measure => omega
    · have hkB : decide ((k : Int) < L.length) = false := by simp; omega
      have hkB2 : decide (k < L.length) = false := by simp; omega
      have HR := Lib.hid (show grQ 24 L = false by rw [HG.out, List.drop_eq_nil_of_le (by omega)]; rfl)
      clear hkl
      go_wp2
      go_ret
      exact ⟨by rw [HR.out]; rfl, HB.out⟩
theorem cellsQ_at : ∀ (L : List (Bool × ByteArray × Bool × ByteArray)) (i n s m t), L[i]? = some (n, s, m, t) → ((cellsQ L)[i * 4]? = some (.bool n) ∧ (cellsQ L)[i * 4 + 1]? = some (.string s)) ∧ (cellsQ L)[i * 4 + 2]? = some (.bool m) ∧ (cellsQ L)[i * 4 + 3]? = some (.string t)
  | [], i, n, s, m, t, h => by simp at h
  | x :: L, 0, n, s, m, t, h => by
    obtain rfl : x = (n, s, m, t) := by simpa using h
    exact ⟨⟨rfl, rfl⟩, rfl, rfl⟩
  | x :: L, i + 1, n, s, m, t, h => by
    have := cellsQ_at L i n s m t (by simpa using h)
    rw [show (i + 1) * 4 = i * 4 + 4 by omega]
    simp only [cellsQ, List.flatMap_cons] at this ⊢
    exact this
theorem greatQ_box {g : Nat} (L : List (Bool × ByteArray × Bool × ByteArray)) {w : World} (h : BC w g (cellsQ L)) (hL : L.length ≤ 1000) (hz : ∀ x ∈ L, x.2.1.size ≤ maxLen ∧ x.2.2.2.size ≤ maxLen) :
    Calls Tryd.prog 10 #[.slice (some ⟨g, 0, none⟩) L.length L.length] w fun e w' => e = .returned (.bool (grQ 24 L)) ∧ Below w.heap.size w w' :=
  greatQ_any g L w hL hz h.lt fun i n s m t hi => by
    obtain ⟨⟨h0, h1⟩, h2, h3⟩ := cellsQ_at L i n s m t hi
    exact ⟨⟨h.cell _ _ h0, h.cell _ _ h1⟩, h.cell _ _ h2, h.cell _ _ h3⟩
theorem grQ_false {k : Nat} {L : List (Bool × ByteArray × Bool × ByteArray)} (h : grQ k L = false) : ∀ x ∈ L, x.2.1.size ≤ k ∧ x.2.2.2.size ≤ k := by
  intro x hx
  unfold grQ at h
  rw [List.any_eq_false] at h
  have := h x hx
  simp at this
  omega
end Go.Proofs.Gv

namespace Go.Proofs.Gv
open Go Go.RowKit

/-- A number of few bytes. -/
theorem rq_small {n m : Bool} {s t : ByteArray} (k : Nat) (hk : k ≤ 1000) (h1 : s.size ≤ k) (h2 : t.size ≤ k) : ∃ a N, Rq n s m t a ∧ Qb N a ∧ N ≤ 8 * k + 8 := by
  have h : Rq n s m t (Rat.divInt (iv n s) (iv m t)) := ⟨rfl, by omega, by omega⟩
  exact ⟨_, 8 * (k + 1), h, h.qb (by omega) (by omega) (by omega), by omega⟩
end Go.Proofs.Gv

namespace Go.Proofs.Gv
open Go Go.RowKit

theorem hz1' {na ma : Bool} {sa ta : ByteArray} (hs : sa.size ≤ maxLen) (ht : ta.size ≤ maxLen) : ∀ x ∈ ([(na, sa, ma, ta)] : List (Bool × ByteArray × Bool × ByteArray)), x.2.1.size ≤ maxLen ∧ x.2.2.2.size ≤ maxLen := fun x hx => by
  obtain rfl : x = (na, sa, ma, ta) := by simpa using hx
  exact ⟨hs, ht⟩
theorem hz_cons {na ma : Bool} {sa ta : ByteArray} {L : List (Bool × ByteArray × Bool × ByteArray)} (hs : sa.size ≤ maxLen) (ht : ta.size ≤ maxLen) (h : ∀ x ∈ L, x.2.1.size ≤ maxLen ∧ x.2.2.2.size ≤ maxLen) : ∀ x ∈ (na, sa, ma, ta) :: L, x.2.1.size ≤ maxLen ∧ x.2.2.2.size ≤ maxLen := fun x hx => by
  rcases List.mem_cons.1 hx with rfl | hx
  · exact ⟨hs, ht⟩
  · exact h x hx
end Go.Proofs.Gv
