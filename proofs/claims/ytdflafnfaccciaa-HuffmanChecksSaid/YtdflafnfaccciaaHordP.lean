/- Arguments that are slices of integers, opened. -/
import Derived.Test.YtdflafnfaccciaaHsl
import Derived.Deep.Slices
import Derived.Deep.Fields
import Derived.ChangeSame
import Derived.Carry
import Derived.OpenShut
import Derived.Lib.SmallJoins
import Derived.Test.YtdflafnfaccciaaShelf
import Derived.LoopN
set_option linter.unusedSimpArgs false
set_option linter.unusedVariables false
namespace Go.Proofs.Gv
open Go Go.RowKit Go.ChangeShapes Go.WideShapes Go.Deep
section
variable {H : Type} {enc : TypeId × Value → H} {P : Program} {w : World} {base : Nat} {spare : Nat → Bool} {held : Bool}
theorem open_slice_fields {t e : TypeId} {fs : Array Field} {fuel : Nat} {cs : List Value} {x : DataW H × List MemPlace} (ht : P.underlying t = some (.slice e)) (he : P.underlying e = some (.struct fs))
    (hone : oneCellFields P fs = true) (hC : P.cellsOf e = fs.size) (h : DataW.trod enc P w base spare held fuel t cs = some x) :
    (cs = [.slice none 0 0] ∧ x = (.nil, [])) ∨
    ∃ (a : Addr) (len cap m : Nat) (D : Nat → DataW H) (Pl : Nat → List MemPlace), cs = [.slice (some a) len cap] ∧ base ≤ a.block ∧ len ≤ cap ∧ cap ≤ maxLen ∧ m = (if spare a.block then cap else len) ∧
      x = (.slice ((List.range len).map D) ((List.range (m - len)).map fun j => D (len + j)), MemPlace.row a (m * fs.size) ++ (List.range m).flatMap Pl) ∧
      ∀ i, i < m → ∃ (ys : List (DataW H × List MemPlace)) (n : Nat), D i = .agg (ys.map (·.1)) ∧ Pl i = ys.flatMap (·.2) ∧ ys.length = fs.size ∧
        ∀ (j : Nat) (f : Field), fs[j]? = some f → ∃ (v : Value) (y : DataW H × List MemPlace), w.cell? (a.add (i * fs.size + j)) = some v ∧ ys[j]? = some y ∧ DataW.trod enc P w base spare held n f.type [v] = some y := by
  rcases open_slice ht h with h0 | ⟨a, len, cap, m, n, D, Pl, hcs, hb, hl, hm, hmm, hx, hi⟩
  · exact .inl h0
  · refine .inr ⟨a, len, cap, m, D, Pl, hcs, hb, hl, hm, hmm, by rw [hC] at hx; exact hx, fun i him => ?_⟩
    obtain ⟨cs', hc, ht'⟩ := hi i him
    rw [hC] at hc
    obtain ⟨ys, n', hn', hy, hlen, hyl, hf⟩ := DataW.trod_struct he ht'
    obtain ⟨_, hcl, hat⟩ := World.cells?_some hc
    simp only [Prod.mk.injEq] at hy
    refine ⟨ys, n', hy.1, hy.2, hyl, fun j f hj => ?_⟩
    obtain ⟨ho, hk⟩ := hone_of hone j f hj
    have hjl : j < fs.size := (Array.getElem?_eq_some_iff.1 hj).1
    have hcell := hat j hjl
    have hv : cs'[j]? = some (cs'[j]'(by omega)) := List.getElem?_eq_getElem (by omega)
    have h1 := hf j f hj
    rw [ho, hk] at h1
    have hone' : (cs'.drop j).take 1 = [cs'[j]'(by omega)] := by
      rw [List.drop_eq_getElem_cons (by omega)]
      rfl
    rw [hone'] at h1
    have hys : ys[j]? = some (ys[j]'(by omega)) := List.getElem?_eq_getElem (by omega)
    refine ⟨_, _, ?_, hys, h1.trans hys⟩
    rw [← Go.Deep.add_add, hcell, hv]
end
/-- A list out of what is known at each index. -/
theorem list_of {α : Type} [Inhabited α] {n : Nat} {R : Nat → α → Prop} (h : ∀ i, i < n → ∃ x, R i x) : ∃ L : List α, L.length = n ∧ ∀ (i : Nat) (x : α), L[i]? = some x → R i x := by
  induction n with
  | zero => exact ⟨[], rfl, fun i x hi => by simp at hi⟩
  | succ n ih =>
    obtain ⟨L, hl, hr⟩ := ih fun i hi => h i (by omega)
    obtain ⟨x, hx⟩ := h n (by omega)
    refine ⟨L ++ [x], by simp [hl], fun i y hi => ?_⟩
    rcases Nat.lt_or_ge i n with h1 | h1
    · rw [List.getElem?_append_left (by omega)] at hi; exact hr i y hi
    · have : i = n := by
        have := (List.getElem?_eq_some_iff.1 hi).1
        simp at this; omega
      subst this
      rw [List.getElem?_append_right (by omega), hl, Nat.sub_self] at hi
      cases hi
      exact hx
theorem laid : laidOutB Try.prog = true := by kernel_rfl
set_option maxRecDepth 100000 in
theorem open_Ints {H : Type} {enc : TypeId × Value → H} {W : World} {r : Reach} {b0 : Nat} {v : Value} {d : DataW H} {p : List MemPlace} (hval : Value.okWide Try.prog W r b0 22 v)
    (h : DataW.Trod enc Try.prog W 0 (fun _ => true) true 22 v d p) :
    ∃ (a : Option Addr) (L : List (Bool × ByteArray)) (cap : Nat), v = .slice a L.length cap ∧ L.length ≤ maxLen ∧ (∀ x ∈ L, x.2.size ≤ maxLen) ∧ Sl W a L ∧ (a = none → L = [] ∧ cap = 0) ∧ L.length ≤ cap ∧ cap ≤ maxLen := by
  obtain ⟨a, len, cap, rfl⟩ := okWide_slice Try.underlying22 hval
  obtain ⟨fuel, hf⟩ := h
  rcases open_slice_fields Try.underlying22 Try.underlying34 (by kernel_rfl) (by kernel_rfl) hf with ⟨hcs, -⟩ | ⟨A, len', cap', m, D, Pl, hcs, -, hl, hm, hmm, -, hi⟩
  · simp [Value.cells] at hcs
    obtain ⟨rfl, rfl, rfl⟩ := hcs
    exact ⟨none, [], 0, rfl, Nat.zero_le _, fun x hx => (by cases hx), fun i n s hi => (by simp at hi), fun _ => ⟨rfl, rfl⟩, Nat.le_refl _, Nat.zero_le _⟩
  · simp [Value.cells] at hcs
    obtain ⟨rfl, rfl, rfl⟩ := hcs
    simp only [if_true] at hmm
    have key : ∀ i, i < len → ∃ x : Bool × ByteArray, (W.cell? (A.add (i * 2)) = some (.bool x.1) ∧ W.cell? (A.add (i * 2 + 1)) = some (.string x.2)) ∧ x.2.size ≤ maxLen := fun i hil => by
      obtain ⟨ys, n, -, -, -, hf⟩ := hi i (by omega)
      obtain ⟨v0, y0, c0, -, t0⟩ := hf 0 _ rfl
      obtain ⟨v1, y1, c1, -, t1⟩ := hf 1 _ rfl
      obtain ⟨b0, e0, -⟩ := DataW.trod_bool Try.underlying4 t0
      obtain ⟨s0, e1, -, w0⟩ := DataW.trod_string Try.underlying9 t1
      simp at e0 e1
      subst e0 e1
      exact ⟨(b0, s0), ⟨c0, c1⟩, w0⟩
    obtain ⟨L, hL, hR⟩ := list_of key
    refine ⟨some A, L, cap, by rw [hL], by omega, fun x hx => ?_, fun i n s hi => ?_, fun e => (by cases e), by omega, by omega⟩
    · obtain ⟨i, hi⟩ := List.getElem?_of_mem hx
      exact (hR i x hi).2
    · exact ⟨A, rfl, (hR i _ hi).1⟩
end Go.Proofs.Gv

namespace Go.Proofs.Gv
open Go Go.RowKit

/-- An integer that is not negative, as it is written. -/
def VN (z : Nat) : Value := .agg #[.bool false, .string (mg z)]
def ord2 (c d : Int) : Int := if c ≠ 0 then c else d
set_option maxRecDepth 100000 in
theorem or_any (g : Nat) (c d : Int) (w : World) (h : BC w g [.int .i64 c, .int .i64 d]) :
    Calls Try.prog 60 #[.slice (some ⟨g, 0, none⟩) 2 2] w fun e w' => e = .returned (.int .i64 (ord2 c d)) ∧ w' = w := by
  have h0 := h.at 0 (.int .i64 c) rfl
  have h1 := h.at 1 (.int .i64 d) rfl
  by_cases hc : c = 0
  · subst hc
    by_cases hd : d = 0
    · subst hd
      go_enter Try.func60, Try.ntmps60
      go_wp2_with fail
      refine wp_loop_rounds 3 ?_
      rw [rounds_succ]
      go_wp2_with fail
      rw [rounds_succ]
      go_wp2_with fail
      rw [rounds_succ]
      go_wp2
      go_ret
      exact ⟨rfl, rfl⟩
    · have hb : (d == 0) = false := by simpa using hd
      have hb2 : (d != 0) = true := by simpa using hd
      have HD := Lib.hid hd
      clear hd
      go_enter Try.func60, Try.ntmps60
      go_wp2_with fail
      refine wp_loop_rounds 2 ?_
      rw [rounds_succ]
      go_wp2_with fail
      rw [rounds_succ]
      go_wp2
      go_ret
      exact ⟨rfl, rfl⟩
  · have hb : (c == 0) = false := by simpa using hc
    have hb2 : (c != 0) = true := by simpa using hc
    have HD := Lib.hid (show ord2 c d = c by unfold ord2; rw [if_pos hc])
    clear hc
    go_enter Try.func60, Try.ntmps60
    go_wp2_with fail
    refine wp_loop_rounds 1 ?_
    rw [rounds_succ]
    go_wp2
    go_ret
    exact ⟨by rw [HD.out]; rfl, rfl⟩
theorem VN_rp {z : Nat} {N : Nat} (h : z < 2 ^ N) (hN : N ≤ 7900000) : Rp false (mg z) (z : Int) := by
  have := Rp.V (z := (z : Int)) N (by rwa [Int.natAbs_natCast]) hN
  rwa [Int.natAbs_natCast, show sgn (z : Int) = false from decide_eq_false (by omega)] at this
theorem ord_lt (u w : Nat) (i k : Int) : decide (ord2 (cmpI (u : Int) (w : Int)) (Lib.compareInt i k) < 0) = (decide (u < w) || (decide (u = w) && decide (i < k))) := by
  unfold ord2 cmpI
  by_cases h1 : u < w
  · rw [if_pos (show (u : Int) < w by omega)]; simp [h1]
  · by_cases h2 : u = w
    · subst h2
      simp only [Int.lt_irrefl, if_false, ne_eq, not_true_eq_false]
      unfold Lib.compareInt
      by_cases h3 : i < k
      · simp [h3]
      · by_cases h4 : k < i
        · simp [h3, h4]
        · simp [h3, h4]
    · rw [if_neg (show ¬ (u : Int) < w by omega), if_pos (show (w : Int) < u by omega)]
      simp [h1, h2]
set_option maxRecDepth 100000 in
set_option maxHeartbeats 1600000 in
theorem byWeight_any (i k : Int) (u v : Nat) (N : Nat) (hu : u < 2 ^ N) (hv : v < 2 ^ N) (hN : N ≤ 1000000) (w : World) :
    Calls Try.prog 50 #[.int .i64 i, .int .i64 k, VN u, VN v] w fun e w' => e = .returned (.int .i64 (ord2 (cmpI (u : Int) (v : Int)) (Lib.compareInt i k))) ∧ Below w.heap.size w w' := by
  have HU := Lib.hid (VN_rp hu (by omega))
  have HV := Lib.hid (VN_rp hv (by omega))
  clear hu hv
  unfold VN
  obtain ⟨c, hc⟩ : ∃ c, cmpI (u : Int) (v : Int) = c := ⟨_, rfl⟩
  obtain ⟨d, hd⟩ : ∃ d, Lib.compareInt i k = d := ⟨_, rfl⟩
  have HC := Lib.hid (fun W => cCmp HU.out HV.out W)
  have HD := Lib.hid (fun W => Try.cmp_Compare_int i k W)
  rw [hc, hd]
  rw [hc] at HC
  rw [hd] at HD
  clear hc hd
  go_enter Try.func50, Try.ntmps50
  have HB := Lib.hid (((Below.refl w.heap.size w).alloc (Nat.le_refl _) (.cells #[.bool false, .string (mg u)] 34)).alloc (by simp) (.cells #[.bool false, .string (mg v)] 34))
  have HX := Lib.hid ((BC.new w w.heap.size #[.bool false, .string (mg u)] 34 rfl).alloc (.cells #[.bool false, .string (mg v)] 34))
  have HY := Lib.hid (BC.new (w.alloc (.cells #[.bool false, .string (mg u)] 34)) (w.heap.size + 1) #[.bool false, .string (mg v)] 34 (by simp))
  have x0 := HX.out.at 0 (.bool false) rfl
  have x1 := HX.out.at 1 (.string (mg u)) rfl
  have y0 := HY.out.at 0 (.bool false) rfl
  have y1 := HY.out.at 1 (.string (mg v)) rfl
  go_wp2_with fail
  refine (HC.out _).mono ?_
  rintro e w1 ⟨rfl, hb⟩
  have HB1 := Lib.hid (bstep HB.out hb)
  clear hb x0 x1 y0 y1 HX HY HB
  go_wp2_with fail
  refine (HD.out _).mono ?_
  rintro e w2 ⟨rfl, rfl⟩
  have HZ := Lib.hid (BC.new w2 w2.heap.size #[.int .i64 c, .int .i64 d] 3 rfl)
  go_wp2_with fail
  refine (or_any _ _ _ _ HZ.out).mono ?_
  rintro e w3 ⟨rfl, rfl⟩
  go_wp2
  go_ret
  exact ⟨rfl, HB1.out.alloc HB1.out.size _⟩
end Go.Proofs.Gv
