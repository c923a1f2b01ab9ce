/- HuffmanChecks: the walk of the law. -/
import Derived.Test.YtdflafnfaccciaaGchk
import Derived.Test.YtdflafnfaccciaaHawk
import Derived.Test.YtdflafnfaccciaaHordP
import Derived.Test.YtdflafnfaccciaaHjoB
set_option linter.unusedSimpArgs false
set_option linter.unusedVariables false
namespace Go.Proofs.Gv
open Go Go.RowKit Go.Maps

theorem dep_both {w w' W : World} {n : Int} {ps : List (Int × Int)} {e e' : Ending} {W' : World} (h1 : DepPost w n ps e w') (h2 : RDep W n ps e' W') (hb : Below w'.heap.size w' W') :
    ∃ (u v : Value), e = .returned (.tuple #[u, .int .i64 (depE n ps)]) ∧ e' = .returned (.tuple #[v, .int .i64 (depE n ps)]) ∧
      ∀ X, Below W'.heap.size W' X → Calls Try.prog 10 #[u, v] X fun e w' => e = .returned (.bool true) ∧ Below X.heap.size X w' := by
  unfold DepPost at h1
  unfold RDep at h2
  obtain ⟨u, rfl, p1, p2, -⟩ := h1
  obtain ⟨g, c, k, rfl, q1, q2, -⟩ := h2
  refine ⟨u, _, rfl, rfl, fun X hX => ?_⟩
  by_cases h0 : depE n ps = 0
  · obtain ⟨m, ms, g1, c1, e1, a1, a2, a3, a4, rfl, a6⟩ := p2 h0
    obtain ⟨m', ms', e2, b1, b2, b3, b4, rfl, b6⟩ := q2 h0
    obtain rfl : m = k := by omega
    rw [a4] at b4
    cases b4
    refine (eqNat_any (depJ_len ms) (depJ_len ms) (by omega) ((a6.below hb).below hX) (b6.below hX)).mono ?_
    rintro e w' ⟨rfl, hb⟩
    exact ⟨by simp, hb⟩
  · obtain rfl := p1 h0
    obtain rfl := q1 h0
    refine (Try.slices_Equal_int_empty none (some ⟨g, 0, none⟩) 0 0 c X (by decide)).mono ?_
    rintro e w' ⟨rfl, rfl⟩
    exact ⟨by simp, Below.refl _ _⟩
set_option maxRecDepth 100000 in
set_option maxHeartbeats 8000000 in
theorem law_checks (w : World) (a : Option Addr) (cap : Nat) (L : List (Bool × ByteArray)) (hL : L.length ≤ maxLen) (hz : ∀ x ∈ L, x.2.size ≤ maxLen) (hSl : Sl w a L) (ha : a = none → L = [] ∧ cap = 0) (n : Int) (wn : (Lit.int .i64 n).wf = true)
    (av : Option Addr) (cv : Nat) (ps : List (Int × Int)) (hps : ps.length ≤ maxLen) (hwf : ∀ x ∈ ps, (Lit.int .i64 x.1).wf = true ∧ (Lit.int .i64 x.2).wf = true) (hv : MrgA w (.slice av ps.length cv) ps) (hav : av = none → ps = [] ∧ cv = 0) :
    Calls Try.prog 3 #[.slice a L.length cap, .int .i64 n, .slice av ps.length cv] w fun e w' => e = .returned (.bool true) ∧ Below w.heap.size w w' := by
  have HGRE := Lib.hid (greatS_any a cap L w hL hz hSl)
  have HS := Lib.hid hSl
  have HLM := Lib.hid hL
  have HV := Lib.hid hv
  have HWF := Lib.hid hwf
  have HWN := Lib.hid wn
  unfold maxLen at hps
  clear hSl hL hz ha hv hwf hav wn
  by_cases hg : grS L = true
  · rw [hg] at HGRE
    clear hg
    go_enter Try.func3, Try.ntmps3
    go_wp2_with fail
    refine HGRE.out.mono ?_
    rintro e w1 ⟨rfl, rfl⟩
    go_wp2_with fail
    refine (awake_any _).mono ?_
    rintro e w9 ⟨rfl, hb⟩
    go_wp2
    go_ret
    exact ⟨rfl, hb⟩
  have hg0 : grS L = false := by simpa using hg
  rw [hg0] at HGRE
  obtain ⟨hz8, h67⟩ := grS_false hg0
  have HZ8 := Lib.hid hz8
  clear hg hg0 hz8 h67
  by_cases h10 : 10 < ps.length
  · have hd : decide ((10 : Int) < ps.length) = true := by simp; omega
    have hdI : (10 : Int) < ps.length := by omega
    clear h10
    go_enter Try.func3, Try.ntmps3
    go_wp2_with fail
    refine HGRE.out.mono ?_
    rintro e w1 ⟨rfl, rfl⟩
    go_wp2_with fail
    refine (awake_any _).mono ?_
    rintro e w9 ⟨rfl, hb⟩
    go_wp2
    go_ret
    exact ⟨rfl, hb⟩
  have h10B : decide ((10 : Int) < ps.length) = false := by simp; omega
  have hpl : ps.length ≤ 1000 := by omega
  have HD := Lib.hid (Depths_any n (.slice av ps.length cv) ps hpl HWF.out HWN.out w HV.out)
  have HRD := Lib.hid (fun W (hb : Below w.heap.size w W) => rDepths_any n (.slice av ps.length cv) ps hpl HWN.out W (HV.out.below hb))
  have HC := Lib.hid (fun W (hb : Below w.heap.size w W) => Check_m_any a cap L (.slice av ps.length cv) ps HLM.out HZ8.out hpl HWF.out W (HS.out.below hb) (HV.out.below hb))
  have HRC := Lib.hid (fun W (hb : Below w.heap.size w W) => rCheck_m_any a cap L (.slice av ps.length cv) ps HLM.out HZ8.out hpl W (HS.out.below hb) (HV.out.below hb))
  obtain ⟨C, hC⟩ : ∃ C, chkE L ps = C := ⟨_, rfl⟩
  rw [hC] at HC HRC
  have hcc : (C == C) = true := by simp
  clear h10 hC
  go_enter Try.func3, Try.ntmps3
  go_wp2_with fail
  refine HGRE.out.mono ?_
  rintro e w0 ⟨rfl, ew⟩
  obtain rfl : w = w0 := ew.symm
  go_wp2_with fail
  refine HD.out.mono ?_
  intro e1 w1 hp1
  have hb1 : Below w.heap.size w w1 := by unfold DepPost at hp1; obtain ⟨u, -, -, -, hb⟩ := hp1; exact hb
  have HB1 := Lib.hid hb1
  obtain ⟨u, rfl⟩ : ∃ u, e1 = .returned (.tuple #[u, .int .i64 (depE n ps)]) := by unfold DepPost at hp1; obtain ⟨u, h, -⟩ := hp1; exact ⟨u, h⟩
  have HP1 := Lib.hid hp1
  have HRD1 := Lib.hid (HRD.out w1 hb1)
  obtain ⟨E, hE⟩ : ∃ E, depE n ps = E := ⟨_, rfl⟩
  have HE := Lib.hid hE
  have hee : (E == E) = true := by simp
  rw [hE]
  clear hp1 hb1 hE HRD
  go_wp2_with fail
  refine HRD1.out.mono ?_
  intro e2 w2 hp2
  have hb2 : Below w1.heap.size w1 w2 := by unfold RDep at hp2; obtain ⟨g, c, k, -, -, -, hb⟩ := hp2; exact hb
  obtain ⟨u', v', e1, rfl, heq⟩ := dep_both HP1.out hp2 hb2
  obtain rfl : u = u' := by simpa using e1
  have HEQ := Lib.hid heq
  have HB2 := Lib.hid (bstep HB1.out hb2)
  rw [HE.out]
  have HC2 := Lib.hid (HC.out w2 HB2.out)
  clear hp2 hb2 e1 heq HP1 HRD1
  go_wp2_with fail
  refine HC2.out.mono ?_
  rintro e w3 ⟨rfl, hb3⟩
  have HB3 := Lib.hid (bstep HB2.out hb3)
  have HX3 := Lib.hid hb3
  have HC3 := Lib.hid (HRC.out w3 HB3.out)
  clear hb3 HC2
  go_wp2_with fail
  refine HC3.out.mono ?_
  rintro e w4 ⟨rfl, hb4⟩
  have HB4 := Lib.hid (bstep HB3.out hb4)
  have HX4 := Lib.hid (bstep HX3.out hb4)
  have HQ4 := Lib.hid (HEQ.out w4 HX4.out)
  clear hb4 HC3 HX3 HX4
  go_wp2_with fail
  refine HQ4.out.mono ?_
  rintro e w5 ⟨rfl, hb5⟩
  have HB5 := Lib.hid (bstep HB4.out hb5)
  clear hb5 HQ4
  go_wp2_with fail
  refine (awake_any _).mono ?_
  rintro e w6 ⟨rfl, hb6⟩
  have HB6 := Lib.hid (bstep HB5.out hb6)
  clear hb6
  go_wp2
  go_ret
  exact ⟨rfl, HB6.out⟩
end Go.Proofs.Gv

namespace Go.Proofs.Gv
open Go Go.RowKit Go.ChangeShapes Go.WideShapes Go.Deep

theorem mrgV_get : ∀ (l : List (Int × Int)) (j : Nat) (v : Value), (mrgV l)[j]? = some v → ∃ x, l[j / 2]? = some x ∧ v = if j % 2 = 0 then .int .i64 x.1 else .int .i64 x.2
  | [], j, v, h => by simp [mrgV] at h
  | x :: r, 0, v, h => by simp [mrgV] at h; exact ⟨x, rfl, by simp [h]⟩
  | x :: r, 1, v, h => by simp [mrgV] at h; exact ⟨x, rfl, by simp [h]⟩
  | x :: r, j + 2, v, h => by
    simp only [mrgV, List.getElem?_cons_succ] at h
    obtain ⟨y, h1, h2⟩ := mrgV_get r j v h
    exact ⟨y, by rw [show (j + 2) / 2 = j / 2 + 1 by omega]; simpa using h1, by rw [h2, show (j + 2) % 2 = j % 2 by omega]⟩
set_option maxRecDepth 100000 in
theorem open_Mrgs {H : Type} {enc : TypeId × Value → H} {W : World} {r : Reach} {b0 : Nat} {v : Value} {d : DataW H} {p : List MemPlace} (hval : Value.okWide Try.prog W r b0 23 v)
    (h : DataW.Trod enc Try.prog W 0 (fun _ => true) true 23 v d p) :
    ∃ (a : Option Addr) (L : List (Int × Int)) (cap : Nat), v = .slice a L.length cap ∧ L.length ≤ maxLen ∧ (∀ x ∈ L, (Lit.int .i64 x.1).wf = true ∧ (Lit.int .i64 x.2).wf = true) ∧ MrgA W (.slice a L.length cap) L ∧ (a = none → L = [] ∧ cap = 0) := by
  obtain ⟨a, len, cap, rfl⟩ := okWide_slice Try.underlying23 hval
  obtain ⟨fuel, hf⟩ := h
  rcases open_slice_fields Try.underlying23 Try.underlying43 (by kernel_rfl) (by kernel_rfl) hf with ⟨hcs, -⟩ | ⟨A, len', cap', m, D, Pl, hcs, -, hl, hm, hmm, -, hi⟩
  · simp [Value.cells] at hcs
    obtain ⟨rfl, rfl, rfl⟩ := hcs
    exact ⟨none, [], 0, rfl, Nat.zero_le _, fun x hx => (by cases hx), ⟨none, 0, rfl, fun i x hi => (by simp [mrgV] at hi)⟩, fun _ => ⟨rfl, rfl⟩⟩
  · simp [Value.cells] at hcs
    obtain ⟨rfl, rfl, rfl⟩ := hcs
    simp only [if_true] at hmm
    have key : ∀ i, i < len → ∃ x : Int × Int, (W.cell? (A.add (i * 2)) = some (.int .i64 x.1) ∧ W.cell? (A.add (i * 2 + 1)) = some (.int .i64 x.2)) ∧ (Lit.int .i64 x.1).wf = true ∧ (Lit.int .i64 x.2).wf = true := fun i hil => by
      obtain ⟨ys, n, -, -, -, hf⟩ := hi i (by omega)
      obtain ⟨v0, y0, c0, -, t0⟩ := hf 0 _ rfl
      obtain ⟨v1, y1, c1, -, t1⟩ := hf 1 _ rfl
      obtain ⟨n0, e0, -, w0⟩ := DataW.trod_int Try.underlying3 t0
      obtain ⟨n1, e1, -, w1⟩ := DataW.trod_int Try.underlying3 t1
      simp at e0 e1
      subst e0 e1
      exact ⟨(n0, n1), ⟨c0, c1⟩, w0, w1⟩
    obtain ⟨L, hL, hR⟩ := list_of key
    refine ⟨some A, L, cap, by rw [hL], by omega, fun x hx => ?_, ⟨some A, cap, by rw [hL], fun j x hj => ?_⟩, fun e => (by cases e)⟩
    · obtain ⟨i, hi⟩ := List.getElem?_of_mem hx
      exact (hR i x hi).2
    · obtain ⟨y, h1, h2⟩ := mrgV_get L j x hj
      obtain ⟨⟨a1, a2⟩, -⟩ := hR (j / 2) y h1
      refine ⟨A, rfl, ?_⟩
      rcases Nat.mod_two_eq_zero_or_one j with e | e
      · rw [e, if_pos rfl] at h2
        rw [show j / 2 * 2 = j by omega] at a1
        rw [h2]; exact a1
      · rw [e, if_neg (by decide)] at h2
        rw [show j / 2 * 2 + 1 = j by omega] at a2
        rw [h2]; exact a2
end Go.Proofs.Gv
