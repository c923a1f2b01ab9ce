/- HuffmanSums: the walk of the law. -/
import Derived.Test.YtpdanbnfommbhaaHnat
import Derived.Test.YtpdanbnfommbhaaHawk
import Derived.Test.YtpdanbnfommbhaaFront
import Derived.Lib.AppendZeros
import Derived.Deep.Slices
import Derived.Test.YtpdanbnfommbhaaMix
import Derived.Test.YtpdanbnfommbhaaBoxesP
set_option linter.unusedSimpArgs false
set_option linter.unusedVariables false
namespace Go.Proofs.Gv
open Go Go.RowKit Go.Maps

theorem lenW_two (L : List (Bool × ByteArray)) : lenW 2 L = chkW L := by unfold lenW; rw [if_neg (by decide)]
theorem grS_false {L : List (Bool × ByteArray)} (h : grS L = false) : (∀ x ∈ L, x.2.size ≤ 8) ∧ L.length ≤ 67 := by
  unfold grS at h
  simp only [Bool.or_eq_false_iff, Bool.and_eq_false_iff, decide_eq_false_iff_not] at h
  obtain ⟨h1, h2, h3⟩ := h
  refine ⟨fun x hx => ?_, by omega⟩
  unfold grB at h1
  rw [List.any_eq_false] at h1
  have := h1 x hx
  simpa using this
theorem VL_lt {Ws : List Nat} (h : ∀ x ∈ VL Ws, x.2.size ≤ 8) : ∀ z ∈ Ws, z < 2 ^ 64 := fun z hz =>
  mg_lt (h (false, mg z) (List.mem_map.2 ⟨z, hz, rfl⟩)) (by omega)
theorem lenH_pos {q : Nat} (hq : 2 ≤ q) {W : List Nat} (h2 : 2 ≤ W.length) : ∀ d ∈ lenH q W, 1 ≤ d := by
  intro d hd
  have hm := merges_ms (q := q) hq (Ws := W) (by omega)
  obtain ⟨-, -, -, a4⟩ := hm.sums hq (List.replicate ((startL q W).length + (mergesH q W).length) 0) (by rw [List.length_replicate]; exact Nat.le_refl _) (rep_zero _)
  obtain ⟨i, hi⟩ := List.getElem?_of_mem hd
  have hil : i < W.length := by have := (List.getElem?_eq_some_iff.1 hi).1; rwa [lenH_len] at this
  rw [lenH_at hil] at hi
  have e : (depH q W).getD i 0 = d := Option.some.inj hi
  rw [← e]
  exact a4 (by rw [startL_cf, startL_len]; omega) i W[i] (startL_at (List.getElem?_eq_getElem hil))
end Go.Proofs.Gv

namespace Go.Proofs.Gv
open Go Go.RowKit Go.Maps

theorem lenW_in (L : List (Bool × ByteArray)) {k : Nat} (h1 : 2 ≤ k) (h2 : k ≤ 16) : lenW (k : Int) L = chkW L := by unfold lenW; rw [if_neg (by omega)]
theorem cost_eq {k : Nat} (hk : 2 ≤ k) {Ws : List Nat} (h1 : 1 ≤ Ws.length) : csum Ws (lenH k Ws) = sumsT (mergesH k Ws) := (lenH_spec hk h1).1
theorem merges_lt {k : Nat} (hk : 2 ≤ k) {Ws : List Nat} (h2 : 2 ≤ Ws.length) : (mergesH k Ws).length ≤ Ws.length - 1 := by
  have h3 := (lenH_spec hk (W := Ws) (by omega)).2.2.2.2.2
  have h4 := startL_len k Ws
  have h5 := padT_lt (q := k) (n := Ws.length) hk
  generalize (mergesH k Ws).length = m at *
  generalize padT k Ws.length = p at *
  generalize Ws.length = n at *
  rw [h4] at h3
  rcases Nat.lt_or_ge m n with h | h
  · omega
  · exfalso
    have a1 : n * (k - 1) ≤ m * (k - 1) := Nat.mul_le_mul_right _ h
    have a2 : n * (k - 1) = (n - 1) * (k - 1) + (k - 1) := by
      obtain ⟨n', rfl⟩ : ∃ n', n = n' + 1 := ⟨n - 1, by omega⟩
      rw [Nat.add_sub_cancel, Nat.succ_mul]
    have a3 : (n - 1) * 1 ≤ (n - 1) * (k - 1) := Nat.mul_le_mul_left _ (by omega)
    omega
theorem lens_64 {k : Nat} (hk : 2 ≤ k) {Ws : List Nat} (h2 : 2 ≤ Ws.length) (h64 : Ws.length ≤ 64) : ∀ d ∈ lenH k Ws, 1 ≤ d ∧ d ≤ 64 := fun d hd =>
  ⟨lenH_pos hk h2 d hd, by have := (lenH_spec hk (W := Ws) (by omega)).2.2.1 d hd; have := merges_lt hk h2; omega⟩
/-- Block g holds these numbers. -/
structure NR (W : World) (g : Nat) (ds : List Nat) : Prop where
  lt : g < W.heap.size
  at_ : ∀ (i d : Nat), ds[i]? = some d → W.cell? ⟨g, i, none⟩ = some (.int .i64 (d : Int))
theorem NR.below {W W' : World} {g : Nat} {ds : List Nat} (h : NR W g ds) (hb : Below W.heap.size W W') : NR W' g ds :=
  ⟨Nat.lt_of_lt_of_le h.lt hb.size, fun i d hi => (hb.cell (p := ⟨g, i, none⟩) h.lt).trans (h.at_ i d hi)⟩
theorem NR.row {W : World} {g c : Nat} {ds : List Nat} (h : NR W g ds) {n : Nat} (hn : n = ds.length) : RowAt W (.slice (some ⟨g, 0, none⟩) n c) (natV ds) := by
  subst hn
  refine ⟨some ⟨g, 0, none⟩, c, by rw [natV_len], fun i x hi => ⟨g, rfl, ?_⟩⟩
  unfold natV at hi
  rw [List.getElem?_map] at hi
  cases hd : ds[i]? with
  | none => rw [hd] at hi; cases hi
  | some k => rw [hd] at hi; cases hi; exact h.at_ i k hd
theorem eqNat_any {g c p c2 n : Nat} {ds es : List Nat} (hx : ds.length = n) (hy : es.length = n) (hn : n ≤ 1000) {W : World} (hu : NR W g ds) (hv : NR W p es) :
    Calls Try.prog 18 #[.slice (some ⟨g, 0, none⟩) n c, .slice (some ⟨p, 0, none⟩) n c2] W fun e w' => e = .returned (.bool (decide (ds = es))) ∧ Below W.heap.size W w' := by
  have key : ∀ {q : Nat} {l : List Nat}, NR W q l → ∀ i x, (intsV (l.map fun (k : Nat) => (k : Int)))[i]? = some x → W.cell? ⟨q, i, none⟩ = some x := fun {q l} h i x hi => by
    unfold intsV at hi
    rw [List.getElem?_map, List.getElem?_map] at hi
    cases hd : l[i]? with
    | none => rw [hd] at hi; cases hi
    | some k => rw [hd] at hi; cases hi; exact h.at_ i k hd
  refine (eqInt_any (W0 := W) (g := g) (c := c) (p := p) (c2 := c2) (n := n) (xs := ds.map fun (k : Nat) => (k : Int)) (ys := es.map fun (k : Nat) => (k : Int)) (by rw [List.length_map]; exact hx) (by rw [List.length_map]; exact hy) hn (key hu) (key hv)).mono ?_
  rintro e w' ⟨rfl, hb⟩
  refine ⟨?_, hb⟩
  have : ((ds.map fun (k : Nat) => (k : Int)) == (es.map fun (k : Nat) => (k : Int))) = decide (ds = es) := by
    rw [Bool.eq_iff_iff, beq_iff_eq, decide_eq_true_iff]
    refine ⟨fun h => ?_, fun h => by rw [h]⟩
    have h2 := congrArg (List.map Int.toNat) h
    rw [List.map_map, List.map_map] at h2
    have hid : ∀ l : List Nat, l.map (Int.toNat ∘ fun (k : Nat) => (k : Int)) = l := fun l => (List.map_congr_left fun x _ => Int.toNat_natCast x).trans (List.map_id l)
    rwa [hid, hid] at h2
  rw [this]
theorem Sl.take {W : World} {A : Addr} {L : List (Bool × ByteArray)} (h : Sl W (some A) L) (t : Nat) : Sl W (some A) (L.take t) := fun i n s hi => by
  rw [List.getElem?_take] at hi
  split at hi
  · exact h i n s hi
  · cases hi
theorem Sl.drop {W : World} {A : Addr} {L : List (Bool × ByteArray)} (h : Sl W (some A) L) (t : Nat) : Sl W (some (A.add (t * 2))) (L.drop t) := fun i n s hi => by
  rw [List.getElem?_drop] at hi
  obtain ⟨A', e, h1, h2⟩ := h (t + i) n s hi
  cases e
  refine ⟨_, rfl, ?_, ?_⟩
  · rw [Go.Deep.add_add, ← Nat.add_mul]; exact h1
  · rw [Go.Deep.add_add, show t * 2 + (i * 2 + 1) = (t + i) * 2 + 1 by omega]; exact h2
/-- The cost of the lengths that huffman.Lengths returns. -/
theorem cost_own {k : Nat} (hk : 2 ≤ k) (hk2 : k ≤ 16) (a : Option Addr) (cap : Nat) (Ws : List Nat) (h2 : 2 ≤ Ws.length) (h64 : Ws.length ≤ 64) (N : Nat) (hN : N ≤ 500) (hW : ∀ z ∈ Ws, z < 2 ^ N) (v : Value) (W : World) (ds : List Nat) (hds : ds.length = Ws.length) (hd : ∀ d ∈ ds, 1 ≤ d ∧ d ≤ 64) (hS : Sl W a (VL Ws)) (hv : RowAt W v (natV ds)) :
    Calls Try.prog 12 #[.slice a Ws.length cap, v] W fun e w' => e = .returned (.tuple #[.agg #[.bool false, .string (mg (csum Ws ds))], .int .i64 0]) ∧ Below W.heap.size W w' := by
  have hz : ∀ x ∈ VL Ws, x.2.size ≤ 100000 := fun x hx => by
    unfold VL at hx
    obtain ⟨z, hz, rfl⟩ := List.mem_map.1 hx
    exact Nat.le_trans (size_mg (n := z) (k := N) (Nat.lt_of_lt_of_le (hW z hz) (Nat.pow_le_pow_left (by decide) N))) (by omega)
  rw [natV_ints] at hv
  have hce : costE (VL Ws) (ds.map fun (k : Nat) => (k : Int)) = 0 := by
    unfold costE
    rw [if_neg (by rw [chkW_VL h2 h64]; simp), if_neg (by rw [List.length_map, hds, VL_len]; simp), if_neg]
    simp only [Bool.not_eq_true, List.any_eq_false, List.mem_map]
    rintro _ ⟨d, hd', rfl⟩
    have := hd d hd'
    simp [badL]; omega
  have := Cost_any cap a (VL Ws) v (ds.map fun (k : Nat) => (k : Int)) (by rw [VL_len]; unfold maxLen; omega) (by rw [List.length_map, hds]; unfold maxLen; omega) hz W hS hv
  rw [hce, VL_len] at this
  refine this.mono ?_
  rintro e w' ⟨⟨z, rfl, -, hz4⟩, hb⟩
  obtain ⟨Ws', ds', eW, eD, -, -, -, -, rfl⟩ := hz4 rfl
  obtain rfl := VL_inj eW
  obtain rfl : ds = ds' := by
    have := congrArg (List.map Int.toNat) eD
    rw [List.map_map, List.map_map] at this
    have hid : ∀ l : List Nat, l.map (Int.toNat ∘ fun (k : Nat) => (k : Int)) = l := fun l => (List.map_congr_left fun x _ => Int.toNat_natCast x).trans (List.map_id l)
    rwa [hid, hid] at this
  exact ⟨rfl, hb⟩
/-- huffman.Lengths at valid weights. -/
theorem len_own {k : Nat} (hk : 2 ≤ k) (hk2 : k ≤ 16) (a : Option Addr) (cap : Nat) (Ws : List Nat) (h2 : 2 ≤ Ws.length) (h64 : Ws.length ≤ 64) (N : Nat) (hN : N ≤ 500) (hW : ∀ z ∈ Ws, z < 2 ^ N) (W : World) (hS : Sl W a (VL Ws)) :
    Calls Try.prog 11 #[.int .i64 (k : Int), .slice a Ws.length cap] W fun e w' => ∃ g c, e = .returned (.tuple #[.slice (some ⟨g, 0, none⟩) Ws.length c, .int .i64 0]) ∧ NR w' g (lenH k Ws) ∧ Below W.heap.size W w' := by
  have hz : ∀ x ∈ VL Ws, x.2.size ≤ 100000 := fun x hx => by
    unfold VL at hx
    obtain ⟨z, hz, rfl⟩ := List.mem_map.1 hx
    exact Nat.le_trans (size_mg (n := z) (k := N) (Nat.lt_of_lt_of_le (hW z hz) (Nat.pow_le_pow_left (by decide) N))) (by omega)
  have := Lengths_any (k : Int) cap a (VL Ws) (by rw [VL_len]; unfold maxLen; omega) hz W hS
  rw [lenW_in _ hk hk2, chkW_VL h2 h64, VL_len] at this
  refine this.mono ?_
  rintro e w' ⟨v, rfl, -, hl, hb⟩
  obtain ⟨n', Ws', e1, eW, -, -, -, -, g, c, rfl, h1, h3, h4⟩ := hl rfl
  obtain rfl : k = n' := by omega
  obtain rfl := VL_inj eW
  rw [lenH_len]
  exact ⟨g, c, rfl, ⟨h3, h4⟩, hb⟩
end Go.Proofs.Gv

namespace Go.Proofs.Gv
open Go Go.RowKit
section
variable {P : Program} {ops : Array Oper} {Q : Exit → Act → World → Prop} {C : World → Prop}
/-- In state a, in every world of C, the operation leaves v in its temporary, and the world as it is. -/
def Yc (P : Program) (ops : Array Oper) (C : World → Prop) (o : Oper) (v : Value) (a : Act) : Prop :=
  (Region.wanted o (yielded ops a.tmps) = true ∧ ∀ w, C w → (execOp a.eval o).run P w = .ok (.value v) w) ∨ (Region.wanted o (yielded ops a.tmps) = false ∧ v = undef)
theorem Yc.of_same {o : Oper} {v : Value} {a a' : Act} (hy : Yc P ops C o v a) (he : execOp a'.eval o = execOp a.eval o) (hw : Region.wanted o (yielded ops a'.tmps) = Region.wanted o (yielded ops a.tmps)) : Yc P ops C o v a' := by
  unfold Yc at *
  rw [he, hw]
  exact hy
theorem Yc.wpOp {w : World} {i : Nat} {o : Oper} {v : Value} {a : Act} (hi : ops[i]? = some o) (hy : Yc P ops C o v a) (hw : C w) {K : Act → World → Prop} (h : K (a.put o.dst v) w) : wpOp P ops Q i K a w := by
  unfold Go.wpOp
  simp only [hi]
  rcases hy with ⟨h1, h2⟩ | ⟨h1, rfl⟩
  · simp only [h1, if_true]
    refine .inl ?_
    unfold Oper.wp
    rw [h2 w hw]
    exact h
  · simp only [h1, Bool.false_eq_true, if_false]; exact h
end
/-- A world in which these boxes hold these values. -/
structure CB (L : List (Nat × List Value)) where
  x : World
  h : BCs L x
theorem CB.at {L : List (Nat × List Value)} (u : CB L) {b : Nat} {l : List Value} (hm : (b, l) ∈ L) (i : Nat) (v : Value) (e : l[i]? = some v) : u.x.cell? ⟨b, i, none⟩ = some v := (u.h _ hm).at i v e
end Go.Proofs.Gv

namespace Go.Proofs.Gv
open Go Go.RowKit Go.Maps

theorem bl_16 (q : Nat) (h : q ≤ 16) : bl q ≤ 5 := bl_lt (N := 5) (by omega)
theorem cPowN (q n : Nat) (hq : q ≤ 16) (hn : n ≤ 64) (W : World) :
    Calls Try.prog 55 #[.agg #[.bool false, .string (mg q)], .int .i64 (n : Int)] W fun e w' => e = .returned (.tuple #[.agg #[.bool false, .string (mg (q ^ n))], .int .i64 0]) ∧ Below W.heap.size W w' := by
  have := cPower (n : Int) (VN_rp (z := q) (N := 62) (by omega) (by omega)) (by omega) (by omega) (by
    rw [Int.natAbs_natCast, Int.toNat_natCast]
    exact Nat.le_trans (Nat.mul_le_mul hn (bl_16 q hq)) (by decide)) W
  rw [Int.toNat_natCast, show ((q : Int) ^ n) = ((q ^ n : Nat) : Int) by simp, Int.natAbs_natCast, show sgn ((q ^ n : Nat) : Int) = false from decide_eq_false (by omega)] at this
  exact this
def pws (q : Nat) (ds : List Nat) : List Nat := ds.map fun d => q ^ (64 - d)
theorem pws_at {q : Nat} {ds : List Nat} {i d : Nat} (h : ds[i]? = some d) : (pws q ds)[i]? = some (q ^ (64 - d)) := by unfold pws; rw [List.getElem?_map, h]; rfl
def pwN : Nat := 257
theorem pw_lt {q d : Nat} (hq : q ≤ 16) : q ^ (64 - d) < 2 ^ pwN := by
  have h1 : q ^ (64 - d) ≤ 16 ^ (64 - d) := Nat.pow_le_pow_left hq _
  have h2 : (16 : Nat) ^ (64 - d) = 2 ^ (4 * (64 - d)) := by rw [show (16 : Nat) = 2 ^ 4 from rfl, ← Nat.pow_mul]
  rw [h2] at h1
  exact Nat.lt_of_le_of_lt h1 (Nat.pow_lt_pow_right (by decide) (by unfold pwN; omega))
theorem pws_lt {q : Nat} (hq : q ≤ 16) (ds : List Nat) (hl : ds.length ≤ 1000) : (pws q ds).sum < 2 ^ (pwN + 10) := by
  have : ∀ z ∈ pws q ds, z < 2 ^ pwN := fun z hz => by
    unfold pws at hz
    obtain ⟨d, -, rfl⟩ := List.mem_map.1 hz
    exact pw_lt hq
  exact sum_lt this (by unfold pws; rw [List.length_map]; exact hl)
theorem pwN_le : pwN ≤ 1000000 ∧ pwN + 10 ≤ 1000000 := by unfold pwN; decide
end Go.Proofs.Gv
