/- slices.Clone of integers: a row of one's own. -/
import Derived.Test.YtdflafnfaccciaaHmer
import Derived.OwnWalk
import Derived.Lib.SliceRun
import Derived.Laws.StructEq
import Derived.Deep.QuietTactic
set_option linter.unusedSimpArgs false
set_option linter.unusedVariables false
namespace Go.Proofs.Gv
open Go Go.RowKit Go.Maps

theorem infoI : (Try.prog.info? 34).map (fun i => (i.zero, i.size, i.bytes)) = some (some (.agg #[.bool false, .string ⟨#[]⟩]), 2, 24) := by kernel_rfl
/-- Integers as cells. -/
def inV : List (Bool × ByteArray) → List Value
  | [] => []
  | x :: r => .bool x.1 :: .string x.2 :: inV r
theorem inV_snoc : ∀ (l : List (Bool × ByteArray)) (x : Bool × ByteArray), inV (l ++ [x]) = inV l ++ [.bool x.1, .string x.2]
  | [], x => rfl
  | y :: l, x => by simp only [List.cons_append, inV, inV_snoc l x]
theorem inV_at : ∀ (l : List (Bool × ByteArray)) (i : Nat) (n : Bool) (s : ByteArray), l[i]? = some (n, s) → (inV l)[i * 2]? = some (.bool n) ∧ (inV l)[i * 2 + 1]? = some (.string s)
  | x :: r, 0, n, s, h => by simp at h; subst h; exact ⟨rfl, rfl⟩
  | x :: r, i + 1, n, s, h => by
    have := inV_at r i n s (by simpa using h)
    rw [show (i + 1) * 2 = i * 2 + 1 + 1 by omega]
    simpa [inV] using this
theorem Sl.of_own {W : World} {base : Nat} {a : Option Addr} {c : Nat} {L : List (Bool × ByteArray)} (h : W.ownsRow base 34 2 (.slice a L.length c) L.length (inV L)) : Sl W a L := by
  intro i n s hi
  rcases h.2 with ⟨e0, h0⟩ | ⟨g, cap, cur, e0, hb, hg, hr⟩
  · have := (List.getElem?_eq_some_iff.1 hi).1; omega
  · cases e0
    obtain ⟨h1, h2⟩ := inV_at L i n s hi
    have key : ∀ j u, (inV L)[j]? = some u → W.cell? ⟨g, j, none⟩ = some u := fun j u hu => by
      rw [cell_of_row W g j cur _ (0, 0) hg]
      rw [← hr.2.2.2, List.getElem?_take] at hu
      split at hu
      · simpa using hu
      · cases hu
    have hadd : ∀ j, (⟨g, 0, none⟩ : Addr).add j = ⟨g, j, none⟩ := fun j => by unfold Addr.add; split <;> simp_all
    exact ⟨_, rfl, by rw [hadd]; exact key _ _ h1, by rw [hadd]; exact key _ _ h2⟩
end Go.Proofs.Gv

namespace Go.Proofs.Gv
open Go Go.RowKit Go.Maps

set_option maxRecDepth 100000 in
set_option maxHeartbeats 1600000 in
theorem ints_any (v : Value) (ks : List Nat) (hk : ks.length ≤ 1000) (hb : ∀ k ∈ ks, k < 2 ^ 62) (w : World) (hv : RowAt w v (natV ks)) :
    Calls Try.prog 11 #[v] w fun e w' => ∃ r, e = .returned r ∧ w'.ownsRow w.heap.size 34 2 r ks.length (inV (VL ks)) ∧ w.grownBy w' none := by
  obtain ⟨i0, hi0, hz0, hz1, hz2⟩ := info_parts infoI
  obtain ⟨a, c, rfl, hat⟩ := hv
  rw [natV_len]
  have HAT := Lib.hid hat
  have HK := Lib.hid hb
  clear hat hb
  go_enter Try.func11, Try.ntmps11
  go_wp2
  go_loopg [3, 8] (ks.length + 1) (fun gg v3 v8 wr => ∃ i : Nat, v8 = .int .i64 (i : Int) ∧ i ≤ ks.length ∧ ks.length - i < gg ∧ w.grownBy wr none ∧ wr.ownsRow w.heap.size 34 2 v3 i (inV (VL (ks.take i))))
  case atStart => exact ⟨0, rfl, Nat.zero_le _, by omega, ⟨rfl, rfl, rfl, Nat.le_refl _, fun _ _ _ => rfl⟩, own_nil _ _ _ _⟩
  case round =>
    obtain ⟨i, rfl, hi, hig, hgw, hown⟩ := hrel
    have HGG := Lib.hid hig
    have HGW := Lib.hid hgw
    have HO := Lib.hid hown
    clear hig hgw hown
    by_cases hlt : i < ks.length
    · have hltI : (i : Int) < ks.length := by omega
      obtain ⟨k, hks⟩ : ∃ k, ks[i]? = some k := ⟨ks[i], List.getElem?_eq_getElem hlt⟩
      obtain ⟨g, rfl, hc0⟩ := HAT.out i _ (by unfold natV; rw [List.getElem?_map, hks]; rfl)
      have c0 := ((grown_below HGW.out).cell (p := ⟨g, i, none⟩) (World.block_lt_of_cell? w _ hc0)).trans hc0
      have hkb := HK.out k (List.mem_of_getElem? hks)
      have HOF := Lib.hid (fun W => show Calls Try.prog 16 #[.int .i64 (k : Int)] W fun e w' => e = .returned (.agg #[.bool false, .string (mg k)]) ∧ Below W.heap.size W w' from by
        have := cOf (k : Int) (by omega) (by omega) W
        rwa [Int.natAbs_natCast, show sgn (k : Int) = false from decide_eq_false (by omega)] at this)
      have HX := Lib.hid (show inV (VL (ks.take (i + 1))) = inV (VL (ks.take i)) ++ [.bool false, .string (mg k)] from by rw [List.take_add_one, hks]; unfold VL; rw [List.map_append]; exact inV_snoc _ _)
      obtain ⟨v3, rfl⟩ : ∃ X, X = u3 := ⟨_, rfl⟩
      clear hkb hks hc0
      go_wp2_with fail
      refine (HOF.out _).mono ?_
      rintro e w1 ⟨rfl, hb1⟩
      have HO1 := Lib.hid (own_grown HO.out (Below.grows hb1) (by simp))
      have HG1 := Lib.hid (HGW.out.andThen (Below.grows hb1) (fun k e => by cases e))
      have HSZ := Lib.hid (Nat.le_trans HGW.out.size hb1.size)
      clear hb1
      go_wp2_with (at_builtin; refine wpList_append_own _ rfl _ _ 22 rfl w.heap.size 34 i0 (.agg #[.bool false, .string ⟨#[]⟩]) 2 24 Try.underlying22 hi0 hz0 hz1 hz2 rfl (by decide) v3 i (inV (VL (ks.take i))) rfl (HO1.out.alloc (.cells #[.bool false, .string (mg k)] 34)) ⟨w1.heap.size, 0, none⟩ 1 1 [.bool false, .string (mg k)] rfl rfl (World.news_of_block (cs := #[.bool false, .string (mg k)]) (t := 34) (fr := (0, 0)) (heap_alloc_new w1 _)) (by simp [Value.oneCell']) (by unfold maxLen; omega) (by omega) (by have := HSZ.out; simp; omega) ?_; intro v' w2 hown2 hgrow2 _)
      go_roundg (ks.length - i)
      case rel =>
        refine ⟨i + 1, by go_num, by omega, by omega, ?_, by rw [HX.out]; exact hown2⟩
        exact (HG1.out.andThen (World.grownBy_alloc w1 (.cells #[.bool false, .string (mg k)] 34) none) (fun k e => by cases e)).andThen hgrow2 (fun k e => .inl (own_base HO.out e).1)
      case measure => have := HGG.out; omega
    · obtain rfl : i = ks.length := by omega
      have hB : decide ((ks.length : Int) < ks.length) = false := by simp
      go_wp2
      go_ret
      have := HO.out
      rw [List.take_length] at this
      exact ⟨_, rfl, this, HGW.out⟩
end Go.Proofs.Gv

namespace Go.Proofs.Gv
open Go Go.RowKit Go.Maps

theorem eqM (a b c d : Int) (w : World) :
    (Op.equalIn 10000 43 (.agg #[.int .i64 a, .int .i64 b]) (.agg #[.int .i64 c, .int .i64 d])).run Try.prog w = .ok (a == c && b == d) w := by
  have hS : Try.prog.underlying 43 = some (.struct (Try.prog.fieldsOf 43)) := by kernel_rfl
  have hp : Try.prog.stoodInHeld 43 = false := by kernel_rfl
  have u4 := Try.underlying3
  have a4 := Try.isAgg3
  have z4 := Try.sizeOf3
  rw [show (10000 : Nat) = 9999 + 1 from rfl, run_equalIn_agg w 9999 43 _ _ hS hp]
  simp only [Program.fieldsOf, Try.underlying43]
  go_simp
  by_cases h : a = c <;> by_cases h2 : b = d <;> simp [h, h2]
@[go_sem ↓] theorem run_neqM (a b c d : Int) (w : World) :
    (binOp .neq 43 (.agg #[.int .i64 a, .int .i64 b]) (.agg #[.int .i64 c, .int .i64 d])).run Try.prog w = .ok (.bool (!(a == c && b == d))) w := by
  rw [run_neq_struct, eqM]; rfl
@[go_sem] theorem eqGuardM : Try.prog.eqGuardType Try.prog.depth 43 = false := by kernel_rfl
theorem mrgV_at : ∀ (l : List (Int × Int)) (i : Nat) (x : Int × Int), l[i]? = some x → (mrgV l)[i * 2]? = some (.int .i64 x.1) ∧ (mrgV l)[i * 2 + 1]? = some (.int .i64 x.2)
  | x :: r, 0, y, h => by simp at h; subst h; exact ⟨rfl, rfl⟩
  | x :: r, i + 1, y, h => by
    have := mrgV_at r i y (by simpa using h)
    rw [show (i + 1) * 2 = i * 2 + 1 + 1 by omega]
    simpa [mrgV] using this
theorem below_drewN {n k : Nat} {a b : World} (h : Below n a b) : Below n a (b.drewN k) := ⟨h.os, h.tape, h.output, h.size, h.block⟩
set_option maxRecDepth 100000 in
set_option maxHeartbeats 1600000 in
theorem eqMrg_any (u v : Value) (xs ys : List (Int × Int)) (h1 : xs.length ≤ 100000) (h2 : ys.length ≤ 100000) (w : World) (hu : MrgAt w u xs) (hv : MrgAt w v ys) :
    Calls Try.prog 15 #[u, v] w fun e w' => e = .returned (.bool (decide (xs = ys))) ∧ Below w.heap.size w w' := by
  obtain ⟨a, c, rfl, hat⟩ := hu
  obtain ⟨b, d, rfl, hbt⟩ := hv
  have HA := Lib.hid hat
  have HB := Lib.hid hbt
  clear hat hbt
  by_cases hl : xs.length = ys.length
  · have hlB : ((xs.length : Int) != ys.length) = false := by simp [hl]
    go_enter Try.func15, Try.ntmps15
    rw [hl]
    go_wp2
    go_loopg [13] (ys.length + 1) (fun gg v13 wr => ∃ i : Nat, v13 = .int .i64 (i : Int) ∧ i ≤ ys.length ∧ ys.length - i < gg ∧ xs.take i = ys.take i ∧ Below w.heap.size w wr)
    case atStart => exact ⟨0, rfl, Nat.zero_le _, by omega, rfl, Below.refl _ _⟩
    case round =>
      obtain ⟨i, rfl, hi, hig, he, hb⟩ := hrel
      have HG := Lib.hid hig
      have HE := Lib.hid he
      have HBW := Lib.hid hb
      clear hig he hb
      by_cases hlt : i < ys.length
      · have hltI : (i : Int) < ys.length := by omega
        obtain ⟨x, hx⟩ : ∃ x, xs[i]? = some x := ⟨xs[i]'(by omega), List.getElem?_eq_getElem _⟩
        obtain ⟨y, hy⟩ : ∃ y, ys[i]? = some y := ⟨ys[i], List.getElem?_eq_getElem hlt⟩
        obtain ⟨p1, p2⟩ := mrgV_at xs i x hx
        obtain ⟨q1, q2⟩ := mrgV_at ys i y hy
        obtain ⟨g, rfl, c0⟩ := HA.out _ _ p1
        obtain ⟨g', e1, c1⟩ := HA.out _ _ p2
        cases e1
        obtain ⟨k, rfl, d0⟩ := HB.out _ _ q1
        obtain ⟨k', e2, d1⟩ := HB.out _ _ q2
        cases e2
        have f0 := (HBW.out.cell (p := ⟨g, i * 2, none⟩) (World.block_lt_of_cell? w _ c0)).trans c0
        have f1 := (HBW.out.cell (p := ⟨g, i * 2 + 1, none⟩) (World.block_lt_of_cell? w _ c1)).trans c1
        have f2 := (HBW.out.cell (p := ⟨k, i * 2, none⟩) (World.block_lt_of_cell? w _ d0)).trans d0
        have f3 := (HBW.out.cell (p := ⟨k, i * 2 + 1, none⟩) (World.block_lt_of_cell? w _ d1)).trans d1
        have HX := Lib.hid (show xs.take (i + 1) = xs.take i ++ [x] ∧ ys.take (i + 1) = ys.take i ++ [y] from ⟨by rw [List.take_add_one, hx]; rfl, by rw [List.take_add_one, hy]; rfl⟩)
        have HXY := Lib.hid (show xs[i]? = some x ∧ ys[i]? = some y from ⟨hx, hy⟩)
        clear c0 c1 d0 d1 p1 p2 q1 q2 hx hy
        by_cases hxy : x = y
        · have hb1 : (!(x.1 == y.1 && x.2 == y.2)) = false := by rw [hxy]; simp
          have hx1 : x.1 = y.1 := by rw [hxy]
          have hx2 : x.2 = y.2 := by rw [hxy]
          have HXE := Lib.hid hxy
          clear hxy
          go_wp2_with fail
          go_quiet (fail)
          go_wp2
          go_roundg (ys.length - i)
          case rel => exact ⟨i + 1, by go_num, by omega, by omega, by rw [HX.out.1, HX.out.2, HE.out, HXE.out], below_drewN HBW.out⟩
          case measure => have := HG.out; omega
        · have hb1 : (x.1 == y.1 && x.2 == y.2) = false := by
            cases hq : (x.1 == y.1 && x.2 == y.2) with
            | false => rfl
            | true =>
              simp at hq
              exact absurd (Prod.ext hq.1 hq.2) hxy
          have HF := Lib.hid (show decide (xs = ys) = false from decide_eq_false fun e => by
            have := HXY.out
            rw [e, this.2] at this
            exact hxy (by simpa using this.1.symm))
          clear hxy
          go_wp2_with fail
          go_quiet (fail)
          go_wp2
          go_ret
          exact ⟨by rw [HF.out]; rfl, below_drewN HBW.out⟩
      · obtain rfl : i = ys.length := by omega
        have hB : decide ((ys.length : Int) < ys.length) = false := by simp
        have HF := Lib.hid (show decide (xs = ys) = true from decide_eq_true (by
          have := HE.out
          rwa [List.take_length, ← hl, List.take_length] at this))
        go_wp2
        go_ret
        exact ⟨by rw [HF.out]; rfl, HBW.out⟩
  · have hlB : ((xs.length : Int) != ys.length) = true := by simp; omega
    have hlN : ¬ (xs.length : Int) = ys.length := by omega
    have HF := Lib.hid (show decide (xs = ys) = false from decide_eq_false fun e => hl (by rw [e]))
    go_enter Try.func15, Try.ntmps15
    go_wp2
    go_ret
    exact ⟨by rw [HF.out]; rfl, Below.refl _ _⟩
end Go.Proofs.Gv
