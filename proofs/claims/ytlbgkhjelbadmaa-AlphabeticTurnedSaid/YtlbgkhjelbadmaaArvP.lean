/- Lengths, Cost, Table at weights that are fine. -/
import Derived.Test.YtlbgkhjelbadmaaAbrP
set_option linter.unusedSimpArgs false
set_option linter.unusedVariables false
namespace Go.Proofs.Gv
open Go Go.RowKit Go.Maps

section
variable (a : Option Addr) (cap : Nat) (Ws : List Nat) (h2 : 2 ≤ Ws.length) (h64 : Ws.length ≤ 64) (hc : Ws.length ≤ cap) (hcm : cap ≤ maxLen) (hz : ∀ x ∈ VL Ws, x.2.size ≤ 8) (W : World) (hS : Sl W a (VL Ws))
include h2 h64 hc hcm hz hS
theorem cost_ok : Calls Try.prog 18 #[.slice a Ws.length cap] W fun e w' => e = .returned (.tuple #[.agg #[.bool false, .string (mg (alc Ws))], .int .i64 0]) ∧ Below W.heap.size W w' := by
  have h := Cost_al a cap (VL Ws) (by rw [VL_len]; exact hc) hcm hz W hS
  rw [VL_len] at h
  refine h.mono ?_
  rintro e w' ⟨-, h, hb⟩
  obtain ⟨Us, e1, rfl⟩ := h (chkV h2 h64)
  obtain rfl := VLinj e1
  exact ⟨rfl, hb⟩
end
theorem alc_lt {Ws : List Nat} (h2 : 2 ≤ Ws.length) (h64 : Ws.length ≤ 64) (hz : ∀ z ∈ Ws, z < 2 ^ 64) : alc Ws < 2 ^ 136 := by
  obtain ⟨-, h1, h3, h4⟩ := fit_best h2 h64
  rw [← h1]
  exact csum_lt (N := 64) h3 hz (fun d hd => Nat.lt_of_le_of_lt (h4 d hd) (by decide)) (by omega)
theorem eq_mg (c : Nat) : eqI false (mg c) false (mg c) = true := eqI_iff.2 ⟨rfl, rfl⟩
end Go.Proofs.Gv

namespace Go.Proofs.Gv
open Go Go.RowKit Go.Maps

/-- A block of one's own that begins with these values. -/
def OwnAt (W : World) (g : Nat) (vs : List Value) : Prop := ∃ l, BC W g l ∧ l.take vs.length = vs
theorem OwnAt.at {W : World} {g : Nat} {vs : List Value} (h : OwnAt W g vs) {i : Nat} {v : Value} (hi : vs[i]? = some v) : W.cell? ⟨g, i, none⟩ = some v := by
  obtain ⟨l, hb, ht⟩ := h
  refine hb.at i v ?_
  have hl := (List.getElem?_eq_some_iff.1 hi).1
  have h2 : (l.take vs.length)[i]? = some v := by rw [ht]; exact hi
  rw [List.getElem?_take, if_pos hl] at h2
  exact h2
theorem OwnAt.z {W : World} {g : Nat} {vs : List Value} (h : OwnAt W g vs) {i : Nat} (hi : i < vs.length) : W.frozen? ⟨g, i, none⟩ = false := by
  obtain ⟨l, hb, ht⟩ := h
  refine hb.z i ?_
  have := congrArg List.length ht
  rw [List.length_take] at this
  omega
theorem OwnAt.set {W : World} {g : Nat} {vs : List Value} (h : OwnAt W g vs) {i : Nat} (v : Value) (hi : i < vs.length) : OwnAt (W.setCell ⟨g, i, none⟩ v) g (vs.set i v) := by
  obtain ⟨l, hb, ht⟩ := h
  have hl := congrArg List.length ht
  rw [List.length_take] at hl
  refine ⟨_, hb.set i v (by omega), ?_⟩
  rw [List.length_set, List.take_set, ht]
theorem OwnAt.below {W W' : World} {g : Nat} {vs : List Value} (h : OwnAt W g vs) (hb : Below W.heap.size W W') : OwnAt W' g vs := by
  obtain ⟨l, h1, ht⟩ := h
  exact ⟨l, h1.below hb, ht⟩
theorem OwnAt.other {W : World} {g p : Nat} {vs : List Value} (h : OwnAt W g vs) (i : Nat) (v : Value) (hne : g ≠ p) : OwnAt (W.setCell ⟨p, i, none⟩ v) g vs := by
  obtain ⟨l, h1, ht⟩ := h
  exact ⟨l, h1.other i v hne, ht⟩
theorem OwnAt.of {W : World} {base k n : Nat} {e : TypeId} {v : Value} {vs : List Value} (h : W.ownsRow base e k v n vs) (hn : 1 ≤ n) (hl : vs.length = n * k) : ∃ g c, v = .slice (some ⟨g, 0, none⟩) n c ∧ n ≤ c ∧ c ≤ maxLen ∧ base ≤ g ∧ OwnAt W g vs := by
  have hh := h
  rcases h.2 with ⟨rfl, h0⟩ | ⟨g, cap, cur, rfl, hb, hg, hcap, hcm, hr⟩
  · omega
  · refine ⟨g, cap, rfl, hcap, hcm, hb, cur.toList, BC.of hg, ?_⟩
    rw [hl]
    exact hr.2
theorem cloneI_any (A : Addr) (cap : Nat) (L : List (Bool × ByteArray)) (h1 : 1 ≤ L.length) (hL : L.length ≤ 1000) (w : World) (h : Sl w (some A) L) :
    Calls Try.prog 24 #[.slice (some A) L.length cap] w fun e w' => ∃ p c, e = .returned (.slice (some ⟨p, 0, none⟩) L.length c) ∧ L.length ≤ c ∧ c ≤ maxLen ∧ w.heap.size ≤ p ∧ OwnAt w' p (inV L) ∧ Below w.heap.size w w' := by
  refine (clone_any (some A) cap L (by omega) (fun e => by cases e) w h).mono ?_
  rintro e w' ⟨v, rfl, ho, hg⟩
  obtain ⟨p, c, rfl, a1, a2, a3, a4⟩ := OwnAt.of ho h1 (inV_len L)
  exact ⟨p, c, rfl, a1, a2, a3, a4, grown_below hg⟩
end Go.Proofs.Gv

namespace Go.Proofs.Gv
open Go Go.RowKit Go.Maps

theorem Sl.at_own {W : World} {g : Nat} {L : List (Bool × ByteArray)} (h : OwnAt W g (inV L)) : Sl W (Option.some ⟨g, 0, none⟩) L := by
  intro i n s hi
  obtain ⟨h1, h2⟩ := inV_at L i n s hi
  exact ⟨_, rfl, by rw [addr0]; exact h.at h1, by rw [addr0]; exact h.at h2⟩
theorem inV_set : ∀ (R : List (Bool × ByteArray)) (k : Nat) (b : Bool) (s : ByteArray), k < R.length → ((inV R).set (k * 2) (.bool b)).set (k * 2 + 1) (.string s) = inV (R.set k (b, s))
  | x :: r, 0, b, s, _ => by simp [inV]
  | x :: r, k + 1, b, s, h => by
    have := inV_set r k b s (by simpa using h)
    rw [show (k + 1) * 2 = k * 2 + 1 + 1 by omega, List.set_cons_succ]
    show _ = .bool x.1 :: .string x.2 :: inV (r.set k (b, s))
    rw [← this]
    rfl
theorem NR2.at_own {W : World} {g c : Nat} {ds : List Nat} (h : OwnAt W g (natV ds)) (h1 : ds.length ≤ c) (h2 : c ≤ maxLen) : NR2 W (.slice (some ⟨g, 0, none⟩) ds.length c) ds :=
  ⟨g, c, rfl, h1, h2, fun i d hi => h.at (by unfold natV; rw [List.getElem?_map, hi]; rfl)⟩
end Go.Proofs.Gv

namespace Go.Proofs.Gv
open Go Go.RowKit Go.Maps

theorem inV_put (M : List (Bool × ByteArray)) {i : Nat} {b : Bool} {s : ByteArray} (hi : i < M.length) : ((inV M).set (i * 2) (.bool b)).set (i * 2 + 1) (.string s) = inV (M.set i (b, s)) := inV_set M i b s hi
/-- The first i and the last ones have changed places. -/
def RvP (L M : List (Bool × ByteArray)) (i j : Nat) : Prop := M.length = L.length ∧ ∀ t, t < L.length → M[t]? = if t < i ∨ j < t then L[L.length - 1 - t]? else L[t]?
theorem RvP.step {L M : List (Bool × ByteArray)} {i j : Nat} (h : RvP L M i j) (hij : i + j + 1 = L.length) (hlt : i < j) {x y : Bool × ByteArray} (hx : M[i]? = some x) (hy : M[j]? = some y) : RvP L ((M.set i y).set j x) (i + 1) (j - 1) := by
  obtain ⟨hl, h⟩ := h
  refine ⟨by rw [List.length_set, List.length_set, hl], fun t ht => ?_⟩
  rw [List.getElem?_set, List.getElem?_set, List.length_set]
  have hxi := h i (by omega)
  have hyj := h j (by omega)
  rw [if_neg (by omega), hx] at hxi
  rw [if_neg (by omega), hy] at hyj
  by_cases h1 : j = t
  · subst h1
    rw [if_pos rfl, if_pos (by omega), if_pos (by omega), show L.length - 1 - j = i by omega, ← hxi]
  · rw [if_neg h1]
    by_cases h2 : i = t
    · subst h2
      rw [if_pos rfl, if_pos (by omega), if_pos (by omega), show L.length - 1 - i = j by omega, ← hyj]
    · rw [if_neg h2, h t ht]
      by_cases h3 : t < i ∨ j < t
      · rw [if_pos h3, if_pos (by omega)]
      · rw [if_neg h3, if_neg (by omega)]
theorem RvP.done {L M : List (Bool × ByteArray)} {i j : Nat} (h : RvP L M i j) (hij : i + j + 1 = L.length) (hge : j ≤ i) : M = L.reverse := by
  obtain ⟨hl, h⟩ := h
  refine List.ext_getElem? fun t => ?_
  by_cases ht : t < L.length
  · rw [h t ht, List.getElem?_reverse ht]
    split
    · rfl
    · rw [show L.length - 1 - t = t by omega]
  · rw [List.getElem?_eq_none (by omega), List.getElem?_eq_none (by rw [List.length_reverse]; omega)]
set_option maxRecDepth 100000 in
set_option maxHeartbeats 4000000 in
theorem rev_any (Y : World) (g c : Nat) (L : List (Bool × ByteArray)) (h1 : 1 ≤ L.length) (hL : L.length ≤ 1000) (hg : Y.heap.size ≤ g) (w : World) (hb : Below Y.heap.size Y w) (ho : OwnAt w g (inV L)) :
    Calls Try.prog 37 #[.slice (some ⟨g, 0, none⟩) L.length c] w fun e w' => e = .returned (.tuple #[]) ∧ OwnAt w' g (inV L.reverse) ∧ Below Y.heap.size Y w' := by
  have HO := Lib.hid ho
  have HB := Lib.hid hb
  have HYG := Lib.hid hg
  obtain ⟨n, hn⟩ : ∃ n, L.length = n := ⟨_, rfl⟩
  have HNN := Lib.hid hn
  obtain ⟨m, hm⟩ : ∃ m, n - 1 = m := ⟨_, rfl⟩
  have hmI : (n : Int) - 1 = (m : Int) := by omega
  have HM := Lib.hid (show m + 1 = n by omega)
  rw [hn] at hL ⊢
  clear hn hm h1 ho hb hg
  go_enter Try.func37, Try.ntmps37
  go_wp2_with fail
  go_loopg [2, 3] (n + 1) (fun gg v2 v3 wr => ∃ (i j : Nat) (M : List (Bool × ByteArray)), v2 = .int .i64 (i : Int) ∧ v3 = .int .i64 (j : Int) ∧ i + j + 1 = n ∧ j < gg ∧ RvP L M i j ∧ OwnAt wr g (inV M) ∧ Below Y.heap.size Y wr)
  case atStart => exact ⟨0, m, L, by go_num, by go_num, by have := HM.out; omega, by have := HM.out; omega, ⟨rfl, fun t ht => by rw [if_neg]; have := HM.out; have := HNN.out; omega⟩, HO.out, HB.out⟩
  case round =>
    obtain ⟨i, j, M, rfl, rfl, hij, hjg, hrv, ho, hb⟩ := hrel
    have HG := Lib.hid hjg
    have HRV := Lib.hid hrv
    have HO1 := Lib.hid ho
    have HB1 := Lib.hid hb
    have HIJ := Lib.hid hij
    have hjn : j < 1000 := by omega
    have hin : i < 1000 := by omega
    clear hjg hrv ho hb hij
    by_cases hlt : i < j
    · have hltI : (i : Int) < j := by omega
      have hML : M.length = n := by rw [HRV.out.1, HNN.out]
      obtain ⟨⟨b1, s1⟩, hx⟩ : ∃ x, M[i]? = some x := ⟨M[i]'(by have := HIJ.out; omega), List.getElem?_eq_getElem _⟩
      obtain ⟨⟨b2, s2⟩, hy⟩ : ∃ y, M[j]? = some y := ⟨M[j]'(by have := HIJ.out; omega), List.getElem?_eq_getElem _⟩
      obtain ⟨i0, i1⟩ := inV_at M i b1 s1 hx
      obtain ⟨j0, j1⟩ := inV_at M j b2 s2 hy
      have c0 := HO1.out.at i0
      have c1 := HO1.out.at i1
      have d0 := HO1.out.at j0
      have d1 := HO1.out.at j1
      have hlen : (inV M).length = n * 2 := by rw [inV_len, hML]
      have HIN := Lib.hid (show i < n ∧ j < n from by have := HIJ.out; omega)
      have hinI : (i : Int) < n := by have := HIN.out; omega
      have hjnI : (j : Int) < n := by have := HIN.out; omega
      have z0 := HO1.out.z (i := i * 2) (by have := HIN.out; omega)
      have z1 := HO1.out.z (i := i * 2 + 1) (by have := HIN.out; omega)
      have y0 := HO1.out.z (i := j * 2) (by have := HIN.out; omega)
      have y1 := HO1.out.z (i := j * 2 + 1) (by have := HIN.out; omega)
      have hij2 : ¬ i * 2 = j * 2 := by omega
      have hij3 : ¬ i * 2 = j * 2 + 1 := by omega
      have hij4 : ¬ i * 2 + 1 = j * 2 := by omega
      have hij5 : ¬ i * 2 + 1 = j * 2 + 1 := by omega
      obtain ⟨r, hr⟩ : ∃ r, j - 1 = r := ⟨_, rfl⟩
      have hrI : (j : Int) - 1 = (r : Int) := by omega
      have HSTEP := Lib.hid (HRV.out.step (by rw [HNN.out]; exact HIJ.out) hlt hx hy)
      rw [hr] at HSTEP
      have HR := Lib.hid hr
      have HML := Lib.hid hML
      clear hx hy i0 i1 j0 j1 hlen hr hML
      go_wp2_with fail
      go_region
      have HW := Lib.hid (show OwnAt ((((wr.setCell ⟨g, i * 2, none⟩ (.bool b2)).setCell ⟨g, i * 2 + 1, none⟩ (.string s2)).setCell ⟨g, j * 2, none⟩ (.bool b1)).setCell ⟨g, j * 2 + 1, none⟩ (.string s1)) g (inV ((M.set i (b2, s2)).set j (b1, s1))) ∧ Below Y.heap.size Y ((((wr.setCell ⟨g, i * 2, none⟩ (.bool b2)).setCell ⟨g, i * 2 + 1, none⟩ (.string s2)).setCell ⟨g, j * 2, none⟩ (.bool b1)).setCell ⟨g, j * 2 + 1, none⟩ (.string s1)) from by
        constructor
        · have hlen : (inV M).length = n * 2 := by rw [inV_len, HML.out]
          rw [← inV_put _ (by rw [List.length_set, HML.out]; exact HIN.out.2), ← inV_put M (by rw [HML.out]; exact HIN.out.1)]
          have hi2 := HIN.out
          exact (((HO1.out.set _ (by omega)).set _ (by rw [List.length_set]; omega)).set _ (by rw [List.length_set, List.length_set]; omega)).set _ (by rw [List.length_set, List.length_set, List.length_set]; omega)
        · exact (((HB1.out.setCell (p := ⟨g, _, none⟩) HYG.out _).setCell (p := ⟨g, _, none⟩) HYG.out _).setCell (p := ⟨g, _, none⟩) HYG.out _).setCell (p := ⟨g, _, none⟩) HYG.out _)
      obtain ⟨Z, hZ⟩ : ∃ Z, ((((wr.setCell ⟨g, i * 2, none⟩ (.bool b2)).setCell ⟨g, i * 2 + 1, none⟩ (.string s2)).setCell ⟨g, j * 2, none⟩ (.bool b1)).setCell ⟨g, j * 2 + 1, none⟩ (.string s1)) = Z := ⟨_, rfl⟩
      rw [hZ] at HW ⊢
      clear hZ c0 c1 d0 d1 z0 z1 y0 y1
      go_wp2
      go_roundg j
      case rel => exact ⟨i + 1, r, _, by go_num, by go_num, by have := HIJ.out; have := HR.out; omega, by have := HR.out; omega, HSTEP.out, HW.out.1.below (Below.refl _ _).drew, HW.out.2.drew⟩
      case measure => have := HG.out; omega
    · have hB : decide ((i : Int) < j) = false := by simp; omega
      have hBN : ¬ (i : Int) < j := by omega
      have HD := Lib.hid (HRV.out.done (by rw [HNN.out]; exact HIJ.out) (by omega))
      go_wp2
      go_end0
      exact ⟨rfl, by rw [← HD.out]; exact HO1.out, HB1.out⟩
end Go.Proofs.Gv
