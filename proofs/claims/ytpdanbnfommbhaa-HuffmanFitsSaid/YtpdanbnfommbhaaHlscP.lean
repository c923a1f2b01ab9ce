/- HuffmanSums: the walk of the law. -/
import Derived.Test.YtpdanbnfommbhaaHnat
import Derived.Test.YtpdanbnfommbhaaHawk
import Derived.Test.YtpdanbnfommbhaaFront
import Derived.Lib.AppendZeros
import Derived.Deep.Slices
set_option linter.unusedSimpArgs false
set_option linter.unusedVariables false
namespace Go.Proofs.Gv
open Go Go.RowKit Go.Maps

theorem grS_false {L : List (Bool × ByteArray)} (h : grS L = false) : (∀ x ∈ L, x.2.size ≤ 8) ∧ L.length ≤ 67 := by
  unfold grS at h
  simp only [Bool.or_eq_false_iff, Bool.and_eq_false_iff, decide_eq_false_iff_not] at h
  obtain ⟨h1, h2, h3⟩ := h
  refine ⟨fun x hx => ?_, by omega⟩
  unfold grB at h1
  rw [List.any_eq_false] at h1
  have := h1 x hx
  simpa using this
theorem VL_lt {Ws : List Nat} (h : ∀ x ∈ VL Ws, x.2.size ≤ 8) : ∀ z ∈ Ws, z < 2 ^ 64 := fun z hz =>
  mg_lt (h (false, mg z) (List.mem_map.2 ⟨z, hz, rfl⟩)) (by omega)
theorem lenH_pos {q : Nat} (hq : 2 ≤ q) {W : List Nat} (h2 : 2 ≤ W.length) : ∀ d ∈ lenH q W, 1 ≤ d := by
  intro d hd
  have hm := merges_ms (q := q) hq (Ws := W) (by omega)
  obtain ⟨-, -, -, a4⟩ := hm.sums hq (List.replicate ((startL q W).length + (mergesH q W).length) 0) (by rw [List.length_replicate]; exact Nat.le_refl _) (rep_zero _)
  obtain ⟨i, hi⟩ := List.getElem?_of_mem hd
  have hil : i < W.length := by have := (List.getElem?_eq_some_iff.1 hi).1; rwa [lenH_len] at this
  rw [lenH_at hil] at hi
  have e : (depH q W).getD i 0 = d := Option.some.inj hi
  rw [← e]
  exact a4 (by rw [startL_cf, startL_len]; omega) i W[i] (startL_at (List.getElem?_eq_getElem hil))
end Go.Proofs.Gv

namespace Go.Proofs.Gv
open Go Go.RowKit Go.Maps

theorem lenW_in (L : List (Bool × ByteArray)) {k : Nat} (h1 : 2 ≤ k) (h2 : k ≤ 16) : lenW (k : Int) L = chkW L := by unfold lenW; rw [if_neg (by omega)]
theorem merges_lt {k : Nat} (hk : 2 ≤ k) {Ws : List Nat} (h2 : 2 ≤ Ws.length) : (mergesH k Ws).length ≤ Ws.length - 1 := by
  have h3 := (lenH_spec hk (W := Ws) (by omega)).2.2.2.2.2
  have h4 := startL_len k Ws
  have h5 := padT_lt (q := k) (n := Ws.length) hk
  generalize (mergesH k Ws).length = m at *
  generalize padT k Ws.length = p at *
  generalize Ws.length = n at *
  rw [h4] at h3
  rcases Nat.lt_or_ge m n with h | h
  · omega
  · exfalso
    have a1 : n * (k - 1) ≤ m * (k - 1) := Nat.mul_le_mul_right _ h
    have a2 : n * (k - 1) = (n - 1) * (k - 1) + (k - 1) := by
      obtain ⟨n', rfl⟩ : ∃ n', n = n' + 1 := ⟨n - 1, by omega⟩
      rw [Nat.add_sub_cancel, Nat.succ_mul]
    have a3 : (n - 1) * 1 ≤ (n - 1) * (k - 1) := Nat.mul_le_mul_left _ (by omega)
    omega
theorem lens_64 {k : Nat} (hk : 2 ≤ k) {Ws : List Nat} (h2 : 2 ≤ Ws.length) (h64 : Ws.length ≤ 64) : ∀ d ∈ lenH k Ws, 1 ≤ d ∧ d ≤ 64 := fun d hd =>
  ⟨lenH_pos hk h2 d hd, by have := (lenH_spec hk (W := Ws) (by omega)).2.2.1 d hd; have := merges_lt hk h2; omega⟩
/-- Block g holds these numbers. -/
structure NR (W : World) (g : Nat) (ds : List Nat) : Prop where
  lt : g < W.heap.size
  at_ : ∀ (i d : Nat), ds[i]? = some d → W.cell? ⟨g, i, none⟩ = some (.int .i64 (d : Int))
theorem NR.below {W W' : World} {g : Nat} {ds : List Nat} (h : NR W g ds) (hb : Below W.heap.size W W') : NR W' g ds :=
  ⟨Nat.lt_of_lt_of_le h.lt hb.size, fun i d hi => (hb.cell (p := ⟨g, i, none⟩) h.lt).trans (h.at_ i d hi)⟩
theorem NR.row {W : World} {g c : Nat} {ds : List Nat} (h : NR W g ds) {n : Nat} (hn : n = ds.length) : RowAt W (.slice (some ⟨g, 0, none⟩) n c) (natV ds) := by
  subst hn
  refine ⟨some ⟨g, 0, none⟩, c, by rw [natV_len], fun i x hi => ⟨g, rfl, ?_⟩⟩
  unfold natV at hi
  rw [List.getElem?_map] at hi
  cases hd : ds[i]? with
  | none => rw [hd] at hi; cases hi
  | some k => rw [hd] at hi; cases hi; exact h.at_ i k hd
theorem Sl.take {W : World} {A : Addr} {L : List (Bool × ByteArray)} (h : Sl W (some A) L) (t : Nat) : Sl W (some A) (L.take t) := fun i n s hi => by
  rw [List.getElem?_take] at hi
  split at hi
  · exact h i n s hi
  · cases hi
theorem Sl.drop {W : World} {A : Addr} {L : List (Bool × ByteArray)} (h : Sl W (some A) L) (t : Nat) : Sl W (some (A.add (t * 2))) (L.drop t) := fun i n s hi => by
  rw [List.getElem?_drop] at hi
  obtain ⟨A', e, h1, h2⟩ := h (t + i) n s hi
  cases e
  refine ⟨_, rfl, ?_, ?_⟩
  · rw [Go.Deep.add_add, ← Nat.add_mul]; exact h1
  · rw [Go.Deep.add_add, show t * 2 + (i * 2 + 1) = (t + i) * 2 + 1 by omega]; exact h2
/-- huffman.Lengths at valid weights. -/
theorem len_own {k : Nat} (hk : 2 ≤ k) (hk2 : k ≤ 16) (a : Option Addr) (cap : Nat) (Ws : List Nat) (h2 : 2 ≤ Ws.length) (h64 : Ws.length ≤ 64) (N : Nat) (hN : N ≤ 500) (hW : ∀ z ∈ Ws, z < 2 ^ N) (W : World) (hS : Sl W a (VL Ws)) :
    Calls Try.prog 11 #[.int .i64 (k : Int), .slice a Ws.length cap] W fun e w' => ∃ g c, e = .returned (.tuple #[.slice (some ⟨g, 0, none⟩) Ws.length c, .int .i64 0]) ∧ NR w' g (lenH k Ws) ∧ Below W.heap.size W w' := by
  have hz : ∀ x ∈ VL Ws, x.2.size ≤ 100000 := fun x hx => by
    unfold VL at hx
    obtain ⟨z, hz, rfl⟩ := List.mem_map.1 hx
    exact Nat.le_trans (size_mg (n := z) (k := N) (Nat.lt_of_lt_of_le (hW z hz) (Nat.pow_le_pow_left (by decide) N))) (by omega)
  have := Lengths_any (k : Int) cap a (VL Ws) (by rw [VL_len]; unfold maxLen; omega) hz W hS
  rw [lenW_in _ hk hk2, chkW_VL h2 h64, VL_len] at this
  refine this.mono ?_
  rintro e w' ⟨v, rfl, -, hl, hb⟩
  obtain ⟨n', Ws', e1, eW, -, -, -, -, g, c, rfl, h1, h3, h4⟩ := hl rfl
  obtain rfl : k = n' := by omega
  obtain rfl := VL_inj eW
  rw [lenH_len]
  exact ⟨g, c, rfl, ⟨h3, h4⟩, hb⟩
theorem u8_nat {n : Int} (h : (Lit.int .u8 n).wf = true) : ∃ m : Nat, n = m ∧ m ≤ 255 := by
  have := bounds_u8 h
  exact ⟨n.toNat, by omega, by omega⟩
end Go.Proofs.Gv
