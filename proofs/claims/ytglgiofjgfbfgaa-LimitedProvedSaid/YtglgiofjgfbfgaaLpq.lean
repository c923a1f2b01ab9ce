/- The law LimitedProved. -/
import Derived.Test.YtglgiofjgfbfgaaLtt
import Derived.Test.YtglgiofjgfbfgaaRwlow1P
set_option linter.unusedSimpArgs false
set_option linter.unusedVariables false
namespace Go.Proofs.Gv
open Go Go.RowKit Go.Maps

theorem i8_int9 {n : Int} (h : (Lit.int .i8 n).wf = true) : -128 ≤ n ∧ n ≤ 127 := by
  have h2 : IntKind.i8.min ≤ n ∧ n ≤ IntKind.i8.max := by simpa [Lit.wf] using h
  have e1 : IntKind.i8.min = -128 := by decide
  have e2 : IntKind.i8.max = 127 := by decide
  rwa [e1, e2] at h2
/-- A cost as a number. -/
def oI : Option Nat → Int | none => -1 | some x => x
theorem oV_rp {o : Option Nat} (h : ∀ x, o = some x → x < 2 ^ 90) : Rp (oB o) (oS o) (oI o) ∧ (oI o).natAbs < 2 ^ 90 := by
  cases o with
  | none =>
    have h1 := rpV (z := -1) (N := 4) (by decide) (by decide)
    rw [show sgn (-1) = true from decide_eq_true (by decide), show ((-1 : Int).natAbs) = 1 from rfl] at h1
    exact ⟨h1, by decide⟩
  | some x =>
    have := h x rfl
    exact ⟨VN_rp (N := 90) this (by decide), by show ((x : Nat) : Int).natAbs < _; omega⟩
theorem tab_ne {M : List (List (Bool × ByteArray))} {j k : Nat} {row : List (Bool × ByteArray)} {x y : Bool × ByteArray} (hj : M[j]? = some row) (hk : row[k]? = some x) (hxy : x ≠ y) : M ≠ M.set j (row.set k y) := fun e => by
  have h5 : (M.set j (row.set k y))[j]? = M[j]? := by rw [← e]
  have hml := (List.getElem?_eq_some_iff.1 hj).1
  have hkl := (List.getElem?_eq_some_iff.1 hk).1
  rw [List.getElem?_set, if_pos rfl, if_pos hml, hj] at h5
  have h6 : (row.set k y)[k]? = row[k]? := by rw [Option.some.inj h5]
  rw [List.getElem?_set, if_pos rfl, if_pos hkl, hk] at h6
  exact hxy (Option.some.inj h6).symm
theorem oV_ne {o : Option Nat} {b : Int} (hb : b ≠ 0) : (oB o, oS o) ≠ (sgn (oI o + b), mg (oI o + b).natAbs) := fun e => by
  have h1 := congrArg Prod.fst e
  have h2 := congrArg Prod.snd e
  simp only at h1 h2
  have key : ∀ z : Int, iv (sgn z) (mg z.natAbs) = z := fun z => iv_V z
  have e1 : iv (oB o) (oS o) = oI o := by
    cases o with
    | none =>
      have h3 := key (-1)
      rw [show sgn (-1) = true from decide_eq_true (by decide), show ((-1 : Int).natAbs) = 1 from rfl] at h3
      exact h3
    | some x => exact iv_mg9 x
  rw [h1, h2, key] at e1
  omega
set_option maxRecDepth 100000 in
set_option maxHeartbeats 1600000 in
theorem lenq_any (A : Addr) (n n1 NN cap b : Nat) (hn : n ≤ 12) (hn1 : n + 1 = n1) (hN : n1 * n1 = NN) (w : World) (hb : BC w b [.int .i64 (n : Int)]) :
    Calls Try.prog 38 #[.slice (some A) NN cap, .pointer (some ⟨b, 0, none⟩)] w fun e w' => e = .returned (.bool false) ∧ Below w.heap.size w w' := by
  have hnI : (n : Int) + 1 = (n1 : Int) := by omega
  have hNI : (n1 : Int) * (n1 : Int) = (NN : Int) := by rw [← hN]; simp
  have hN2 : NN ≤ 169 := by rw [← hN]; exact Nat.mul_le_mul (show n1 ≤ 13 by omega) (show n1 ≤ 13 by omega)
  have hnn : ((NN : Int) != (NN : Int)) = false := by simp
  have c0 := hb.at 0 _ rfl
  have hn2 : n1 ≤ 13 := by omega
  clear hN hn1 hb
  go_enter Try.func38, Try.ntmps38
  go_wp2
  go_ret
  exact ⟨rfl, Below.refl _ _⟩
set_option maxRecDepth 100000 in
set_option maxHeartbeats 1600000 in
theorem idxq_any (v : Value) (M : List (List (Bool × ByteArray))) (n n1 NN b : Nat) (hn : n ≤ 12) (hn1 : n + 1 = n1) (hN : n1 * n1 = NN) (hM : ∀ r ∈ M, r.length = NN) (hMl : M.length ≤ 1000) (w : World) (hv : RwS w v M) (hb : BC w b [.int .i64 (n : Int)]) :
    Calls Try.prog 81 #[v, .func (.func 38) #[] #[.pointer (some ⟨b, 0, none⟩)]] w fun e w' => e = .returned (.int .i64 (-1)) ∧ Below w.heap.size w w' := by
  obtain ⟨A, c, rfl, -, -, hat⟩ := hv
  have HA := Lib.hid hat
  have HM := Lib.hid hM
  have HLQ := Lib.hid (fun A cap W (h : Below w.heap.size w W) => lenq_any A n n1 NN cap b hn hn1 hN W (hb.below h))
  obtain ⟨k, hk⟩ : ∃ k, M.length = k := ⟨_, rfl⟩
  have HK := Lib.hid hk
  rw [hk] at hMl ⊢
  clear hat hM hb hk
  go_enter Try.func81, Try.ntmps81
  go_wp2
  go_loopg [8] (k + 1) (fun gg v8 wr => ∃ i : Nat, v8 = .int .i64 (i : Int) ∧ i ≤ k ∧ k - i < gg ∧ Below w.heap.size w wr)
  case atStart => exact ⟨0, rfl, Nat.zero_le _, by omega, Below.refl _ _⟩
  case round =>
    obtain ⟨i, rfl, hi, hig, hbl⟩ := hrel
    have HG := Lib.hid hig
    have HB := Lib.hid hbl
    clear hig hbl
    by_cases hlt : i < k
    · have hltI : (i : Int) < k := by omega
      obtain ⟨x, hx⟩ : ∃ x, M[i]? = some x := ⟨M[i]'(by rw [HK.out]; exact hlt), List.getElem?_eq_getElem _⟩
      obtain ⟨A1, c1, f1, -, -, -⟩ := HA.out i x hx
      have g1 := (HB.out.cell (World.block_lt_of_cell? _ _ f1)).trans f1
      rw [HM.out x (List.mem_of_getElem? hx)] at g1
      have HC := Lib.hid (HLQ.out A1 c1 wr HB.out)
      clear hx f1
      go_wp2_with fail
      refine HC.out.mono ?_
      rintro e w1 ⟨rfl, hb1⟩
      have HB1 := Lib.hid (bstep HB.out hb1)
      clear hb1
      go_wp2
      go_roundg (k - i)
      case rel => exact ⟨i + 1, by go_num, by omega, by omega, HB1.out⟩
      case measure => have := HG.out; omega
    · obtain rfl : i = k := by omega
      have hB : decide ((i : Int) < i) = false := by simp
      go_wp2
      go_ret
      exact ⟨rfl, HB.out⟩
set_option maxHeartbeats 800000 in
theorem conq_any (v : Value) (M : List (List (Bool × ByteArray))) (n n1 NN b : Nat) (hn : n ≤ 12) (hn1 : n + 1 = n1) (hN : n1 * n1 = NN) (hM : ∀ r ∈ M, r.length = NN) (hMl : M.length ≤ 1000) (w : World) (hv : RwS w v M) (hb : BC w b [.int .i64 (n : Int)]) :
    Calls Try.prog 37 #[v, .func (.func 38) #[] #[.pointer (some ⟨b, 0, none⟩)]] w fun e w' => e = .returned (.bool false) ∧ Below w.heap.size w w' := by
  have HI := Lib.hid (idxq_any v M n n1 NN b hn hn1 hN hM hMl w hv hb)
  clear hM hv hb hn1 hN
  go_enter Try.func37, Try.ntmps37
  go_wp2_with fail
  refine HI.out.mono ?_
  rintro e w1 ⟨rfl, hb⟩
  go_wp2
  go_ret
  exact ⟨rfl, hb⟩
end Go.Proofs.Gv
