/- The library's functions on slices of numbers: Contains, IsSorted, Clone, Compact. -/
import Derived.Test.YtlaakomeofldgaaLFactors
import Derived.Lib.SlicesCompact
namespace Go.Proofs.Gv
open Go Go.RowKit

theorem cast_contains (l : List Nat) (i : Nat) : (l.map fun (x : Nat) => (x : Int)).contains (i : Int) = l.contains i := by
  rw [Bool.eq_iff_iff, List.contains_iff_mem, List.contains_iff_mem, List.mem_map]
  constructor
  · rintro ⟨x, hx, e⟩
    have : x = i := by omega
    subst this; exact hx
  · intro h; exact ⟨i, h, rfl⟩
theorem contains_ints {W : World} {B : Nat} {v : Value} {l : List Nat} (h : IntsAt W B v l) (hl : l.length ≤ 1000000000) (i : Nat) :
    Calls Try.prog 25 #[v, .int .i64 i] W fun e w' => e = .returned (.bool (l.contains i)) ∧ w' = W := by
  rcases h.at0 with h0 | ⟨g, c, rfl, _, _, _, a4, _⟩
  · subst h0
    obtain ⟨a1, c1, rfl⟩ := h.form
    exact Try.slices_Contains_int_empty a1 c1 i W
  · refine (Try.slices_Contains_int g 0 l.length c (l.map fun (x : Nat) => (x : Int)) i W (by simp) (by omega) (fun j hj => ?_)).mono fun e w' h => ⟨by rw [h.1, List.take_of_length_le (by simp), cast_contains], h.2⟩
    rw [Nat.zero_add, a4 j (by simpa using hj), cast_getD]

/-- Each number is less than the next one. -/
def Asc (l : List Nat) : Prop := ∀ j, j + 1 < l.length → l.getD j 0 < l.getD (j + 1) 0

set_option maxRecDepth 100000 in
set_option maxHeartbeats 800000 in
theorem sorted_ints {W : World} {B : Nat} {v : Value} {l : List Nat} (h : IntsAt W B v l) (hl : l.length ≤ 1000000000) (ha : Asc l) :
    Calls Try.prog 27 #[v] W fun e w' => e = .returned (.bool true) ∧ Dr W w' := by
  obtain ⟨a, c, rfl⟩ := h.form
  have HA := Lib.hid h
  have HS := Lib.hid ha
  clear h ha
  go_enter Try.func27, Try.ntmps27
  go_wp2
  go_loopg [3] (l.length + 1) (fun g i wr => ∃ z : Int, i = .int .i64 z ∧ -1 ≤ z ∧ z < l.length ∧ (z + 1).toNat ≤ g ∧ Dr W wr)
  case atStart => exact ⟨_, rfl, by omega, by omega, by omega, Dr.refl W⟩
  case round =>
    obtain ⟨z, rfl, h1, h2, hg, hd⟩ := hrel
    by_cases hz : 0 < z
    · obtain ⟨k, hk⟩ : ∃ k : Nat, z = (k : Int) + 1 := ⟨(z - 1).toNat, by omega⟩
      subst hk
      rcases HA.out.at0 with h0 | ⟨g, c', e, _, _, _, a4, _⟩
      · exfalso; rw [h0] at h2; simp at h2; omega
      · injection e with e1 _ e2
        subst e1; subst e2
        have c0 : wr.cell? ⟨g, k, none⟩ = some (.int .i64 (l.getD k 0 : Nat)) := by obtain ⟨q, rfl⟩ := hd; exact a4 k (by omega)
        have c1 : wr.cell? ⟨g, k + 1, none⟩ = some (.int .i64 (l.getD (k + 1) 0 : Nat)) := by obtain ⟨q, rfl⟩ := hd; exact a4 (k + 1) (by omega)
        have HD := Lib.hid hd
        clear hd
        have hlt := HS.out k (by omega)
        obtain ⟨x, hx⟩ : ∃ x, l.getD k 0 = x := ⟨_, rfl⟩
        obtain ⟨y, hy⟩ : ∃ y, l.getD (k + 1) 0 = y := ⟨_, rfl⟩
        rw [hx] at c0 hlt
        rw [hy] at c1 hlt
        clear hx hy a4
        have HL := Lib.hid (fun V => (Try.cmp_Less_int2 (y : Int) (x : Int) V).mono (fun e w' h => ⟨by rw [h.1, show decide ((y : Int) < x) = false by simp; omega], h.2⟩) : ∀ V, Calls Try.prog 53 #[.int .i64 (y : Nat), .int .i64 (x : Nat)] V fun e w' => e = .returned (.bool false) ∧ w' = V)
        have i1 : (k : Int) + 1 < l.length := by omega
        have i0 : (0 : Int) ≤ (k : Int) + 1 := by omega
        have i2 : ((k : Int) + 1).toNat = k + 1 := by omega
        have i3 : IntKind.i64.wrap ((k : Int) + 1 - 1) = k := by rw [IntKind.wrap_i64]; omega
        have i4 : (0 : Int) ≤ k := by omega
        have i5 : (k : Int) < l.length := by omega
        clear hlt
        go_wp2
        go_quiet ((go_at_call 53; exact Calls.quiet_of_same (HL.out _)))
        go_wp2
        go_roundg (k + 1)
        case rel => exact ⟨k, by congr 1, by omega, by omega, by omega, HD.out.more _⟩
        case measure => omega
    · go_wp2
      go_ret
      exact ⟨rfl, hd⟩

theorem clone_ints {W : World} {B : Nat} {v : Value} {l : List Nat} (h : IntsAt W B v l) (hl : l.length ≤ 1000000000) :
    Calls Try.prog 29 #[v] W fun e w' => ∃ v', e = .returned v' ∧ IntsAt w' W.heap.size v' l ∧ Below W.heap.size W w' := by
  rcases h.at0 with h0 | ⟨g, c, rfl, _, _, _, a4, _⟩
  · subst h0
    obtain ⟨a1, c1, rfl⟩ := h.form
    rcases a1 with _ | a1
    · refine (Try.slices_Clone_int_nil 0 c1 W).mono fun e w' h => ⟨_, h.1, ⟨⟨none, 0, rfl⟩, .inl rfl⟩, by rw [h.2]; exact Below.refl _ _⟩
    · refine (Try.slices_Clone_int_zero a1 c1 W).mono fun e w' ⟨v', h1, h2, _, h4⟩ => ⟨v', h1, IntsAt.of_row (l := []) h2, h4⟩
  · refine (Try.slices_Clone_int g 0 l.length c (l.map fun (x : Nat) => (x : Int)) W (by simp) (by omega) (fun j hj => ?_)).mono fun e w' ⟨v', h1, h2, _, h4⟩ => ⟨v', h1, IntsAt.of_row ?_, h4⟩
    · rw [Nat.zero_add, a4 j (by simpa using hj), cast_getD]
    · rw [List.take_of_length_le (by simp)] at h2
      have e : (l.map fun (x : Nat) => (x : Int)).map (Value.int .i64) = intV l := by simp [intV]
      rwa [e] at h2

theorem compact_asc {l : List Nat} (h : Asc l) : (Lib.compact (l.map fun (x : Nat) => (x : Int))).length = l.length := by
  unfold Lib.compact Lib.compactUpTo
  rw [List.length_map, List.filter_eq_self.mpr]
  · simp
  · intro j hj
    have hj' : j < l.length := by simpa using hj
    rcases j with _ | j
    · exact Lib.keeps_lt_one _ 0 (by omega)
    · refine Lib.keeps_pos ?_
      have h1 := h j hj'
      rw [show j + 1 - 1 = j by omega]
      have e : ∀ k, k < l.length → (l.map fun (x : Nat) => (x : Int)).toArray[k]! = (l.getD k 0 : Nat) := fun k hk => by
        rw [getElem!_pos _ k (by simpa using hk)]
        simp [hk]
      rw [e (j + 1) hj', e j (by omega)]
      omega
theorem putRow_belowI {w W : World} {n g : Nat} {α : Type} [Inhabited α] {enc : α → Value} {d d' : Array α} (h : Below n w W) (hg : n ≤ g) : Below n w (Sort.putRow enc W g 0 d') := by
  refine ⟨h.os, h.tape, h.output, by simpa using h.size, fun k hk => ?_⟩
  rw [← h.block k hk]
  simp [Sort.putRow, Sort.mapBlock, Array.getElem?_modify]
  intro e; omega
/-- slices.Compact at an ascending slice: the length stays. -/
theorem compact_ints {W : World} {B : Nat} {v : Value} {l : List Nat} (h : IntsAt W B v l) (hl : l.length ≤ 1000000000) (ha : Asc l) :
    Calls Try.prog 28 #[v] W fun e w' => (∃ a c, e = .returned (.slice a l.length c)) ∧ Below B W w' := by
  rcases h.at0 with h0 | ⟨g, c, rfl, hB, _, hc, a4, a5⟩
  · subst h0
    obtain ⟨a1, c1, rfl⟩ := h.form
    exact (Try.slices_Compact_int_empty a1 c1 W).mono fun e w' h => ⟨⟨_, _, h.1⟩, by rw [h.2]; exact Below.refl _ _⟩
  · have h1 := Try.slices_Compact_int g 0 c (l.map fun (x : Nat) => (x : Int)) W (fun j hj => by
      have hj' : j < l.length := by simpa using hj
      rw [Nat.zero_add]
      refine ⟨?_, a5 j hj'⟩
      rw [a4 j hj', getElem!_pos _ j hj]
      simp [hj']) (by simp; omega) (by simpa using hc)
    rw [compact_asc ha] at h1
    rw [List.length_map] at h1
    refine h1.mono fun e w' ⟨h2, q, h3⟩ => ⟨⟨_, _, h2⟩, ?_⟩
    subst h3
    exact putRow_belowI (d := #[]) (W := Sort.ahead W q) ⟨rfl, rfl, rfl, Nat.le_refl _, fun _ _ => rfl⟩ hB
end Go.Proofs.Gv
