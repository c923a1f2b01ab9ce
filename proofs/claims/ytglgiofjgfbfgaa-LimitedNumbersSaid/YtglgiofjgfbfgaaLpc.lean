/- limited.Packages: the lists of the levels, what is taken from each. -/
import Derived.Test.YtglgiofjgfbfgaaLpb
import Derived.Test.YtglgiofjgfbfgaaMixInCP
import Derived.Test.YtglgiofjgfbfgaaLln
import Derived.Test.YtglgiofjgfbfgaaAppQP
import Derived.Maps.AppendAt
set_option linter.unusedSimpArgs false
set_option linter.unusedVariables false
namespace Go.Proofs.Gv
open Go Go.RowKit Go.Maps Go.Shelf
attribute [local go_sem] Oper.semAt_some

theorem pkI_bd {B : Nat} : ∀ {l : List (Nat × Bool)}, (∀ x ∈ l, x.1 < B) → ∀ y ∈ pkI l, y.1 < 2 * B
  | [], _, y, hy => by cases hy
  | [x], _, y, hy => by simp [pkI] at hy
  | x :: z :: l, h, y, hy => by
    rw [pkI] at hy
    rcases List.mem_cons.1 hy with hy | hy
    · have h1 := h x (List.mem_cons_self ..)
      have h2 := h z (List.mem_cons_of_mem _ (List.mem_cons_self ..))
      rw [hy]; show x.1 + z.1 < _; omega
    · exact pkI_bd (fun u hu => h u (List.mem_cons_of_mem _ (List.mem_cons_of_mem _ hu))) y hy
theorem lvI_bd {A : List Nat} {N : Nat} (h : ∀ z ∈ A, z < 2 ^ N) : ∀ t, ∀ x ∈ lvI A t, x.1 < 2 ^ (N + t)
  | 0, x, hx => by cases hx
  | t + 1, x, hx => by
    rw [lvI] at hx
    rcases (mgI_mem x _ _).1 hx with hx | hx
    · obtain ⟨z, hz, rfl⟩ := List.mem_map.1 hx
      exact Nat.lt_of_lt_of_le (h z hz) (Nat.pow_le_pow_right (by decide) (by omega))
    · have := pkI_bd (lvI_bd h t) x hx
      rwa [← Nat.pow_succ', Nat.succ_eq_add_one, Nat.add_assoc] at this
theorem lvI_le (A : List Nat) : ∀ t, (lvI A t).length ≤ 2 * A.length
  | 0 => Nat.zero_le _
  | t + 1 => by have := lvI_le A t; rw [lvI_len]; omega
theorem lvI_ge (A : List Nat) (t : Nat) : A.length ≤ (lvI A (t + 1)).length := by rw [lvI_len]; omega
/-- Rows of two numbers. -/
def PkR (W : World) (g : Nat) (P : List (Nat × Nat)) : Prop := ∀ (j t s : Nat), P[j]? = some (t, s) → ∃ gj, W.cell? ⟨g, j, none⟩ = some (.slice (some ⟨gj, 0, none⟩) 2 2) ∧ W.cell? ⟨gj, 0, none⟩ = some (.int .i64 (t : Int)) ∧ W.cell? ⟨gj, 1, none⟩ = some (.int .i64 (s : Int))
/-- What Packages answers. -/
def PkP (L : List (Bool × ByteArray)) (m : Int) (w : World) (e : Ending) (w' : World) : Prop :=
  (limE L m ≠ 0 → e = .returned (.tuple #[.slice none 0 0, .int .i64 (limE L m)])) ∧ (limE L m = 0 → ∃ Ws g c, L = VL Ws ∧ e = .returned (.tuple #[.slice (some ⟨g, 0, none⟩) m.toNat c, .int .i64 0]) ∧ m.toNat ≤ c ∧ c ≤ maxLen ∧ PkR w' g (tkI (auL Ws) m.toNat (2 * Ws.length - 2))) ∧ Below w.heap.size w w'
/-- Singles, as they grow in their box. -/
structure SgB (w3 : World) (p7 : Nat) (A : List Nat) (j : Nat) (W : World) : Prop where
  g : w3.grownBy W (some p7)
  v : ∃ v, BC W p7 [v] ∧ W.ownsRow w3.heap.size 95 3 v j (itV ((sgI A).take j))
theorem natV_ex {l : List Nat} {i : Nat} {v : Value} (h : (natV l)[i]? = some v) : ∃ d, l[i]? = some d ∧ v = .int .i64 (d : Int) := by
  unfold natV at h
  rw [List.getElem?_map] at h
  cases hd : l[i]? with
  | none => rw [hd] at h; cases h
  | some d => rw [hd] at h; exact ⟨d, rfl, (Option.some.inj h).symm⟩
theorem cells_new3 (w : World) (a b c : Value) (t : TypeId) : ∀ j u, [a, b, c][j]? = some u → (w.alloc (.cells #[a, b, c] t)).cell? ((⟨w.heap.size, 0, none⟩ : Addr).add j) = some u := by
  intro j u hj
  rw [addr0]
  exact (BC.new w w.heap.size #[a, b, c] t rfl).cell j u hj
/-- The rows of the levels. -/
structure LvR (W : World) (skip : Option Nat) (Lv : List Value) (A : List Nat) (k : Nat) : Prop where
  len : Lv.length = k
  row : ∀ (i : Nat) (v : Value), Lv[i]? = some v → ∃ g c, v = .slice (some ⟨g, 0, none⟩) (lvI A (i + 1)).length c ∧ (lvI A (i + 1)).length ≤ c ∧ c ≤ maxLen ∧ g < W.heap.size ∧ skip ≠ some g ∧ ItS W g (lvI A (i + 1))
theorem LvR.below {W W' : World} {skip : Option Nat} {Lv : List Value} {A : List Nat} {k : Nat} (h : LvR W skip Lv A k) (hb : Below W.heap.size W W') : LvR W' skip Lv A k := by
  refine ⟨h.len, fun i v hi => ?_⟩
  obtain ⟨g, c, h1, h2, h3, h4, h5, h6⟩ := h.row i v hi
  exact ⟨g, c, h1, h2, h3, Nat.lt_of_lt_of_le h4 hb.size, h5, h6.below hb⟩
theorem LvR.app {W W' : World} {skip skip' : Option Nat} {Lv : List Value} {A : List Nat} {k g c : Nat} (h : LvR W skip Lv A k) (hg : W.grownBy W' skip) (hat : skip' = skip ∨ skip' = some W.heap.size) (h1 : (lvI A (k + 1)).length ≤ c) (h1m : c ≤ maxLen) (h2 : g < W.heap.size) (h3 : skip ≠ some g)
    (h4 : ItS W g (lvI A (k + 1))) : LvR W' skip' (Lv ++ [.slice (some ⟨g, 0, none⟩) (lvI A (k + 1)).length c]) A (k + 1) := by
  have hs : ∀ j, j < W.heap.size → skip ≠ some j → skip' ≠ some j := fun j hj hne e => by
    rcases hat with h | h
    · exact hne (h ▸ e)
    · rw [h] at e
      have : W.heap.size = j := by simpa using e
      omega
  refine ⟨by simp [h.len], fun i v hi => ?_⟩
  by_cases hil : i < k
  · rw [List.getElem?_append_left (by rw [h.len]; exact hil)] at hi
    obtain ⟨g', c', a1, a2, a3, a4, a5, a6⟩ := h.row i v hi
    exact ⟨g', c', a1, a2, a3, Nat.lt_of_lt_of_le a4 hg.size, hs g' a4 a5, a6.grown hg a5⟩
  · have hlt := (List.getElem?_eq_some_iff.1 hi).1
    rw [List.length_append, h.len] at hlt
    simp at hlt
    obtain rfl : i = k := by omega
    rw [List.getElem?_append_right (by rw [h.len]; exact Nat.le_refl _), h.len, Nat.sub_self] at hi
    cases hi
    exact ⟨g, c, rfl, h1, h1m, Nat.lt_of_lt_of_le h2 hg.size, hs g h2 h3, h4.grown hg h3⟩
theorem pkI_get : ∀ {l : List (Nat × Bool)} {j : Nat} {x y : Nat × Bool}, l[2 * j]? = some x → l[2 * j + 1]? = some y → (pkI l)[j]? = some (x.1 + y.1, false)
  | u :: v :: l, 0, x, y, hx, hy => by
    have h1 : u = x := by simpa using hx
    have h2 : v = y := by simpa using hy
    subst h1; subst h2; rfl
  | u :: v :: l, j + 1, x, y, hx, hy => by
    rw [pkI, List.getElem?_cons_succ]
    exact pkI_get (l := l) (by rw [show 2 * (j + 1) = 2 * j + 2 by omega] at hx; simpa using hx) (by rw [show 2 * (j + 1) + 1 = 2 * j + 1 + 2 by omega] at hy; simpa using hy)
  | [], j, x, y, hx, hy => by cases hx
  | [u], j, x, y, hx, hy => by
    have := (List.getElem?_eq_some_iff.1 hy).1
    simp at this
theorem infoRi : (Try.prog.info? 90).map (fun i => (i.zero, i.size, i.bytes)) = some (some (.slice none 0 0), 1, 24) := by kernel_rfl
theorem infoR2 : (Try.prog.info? 32).map (fun i => (i.zero, i.size, i.bytes)) = some (some (.slice none 0 0), 1, 24) := by kernel_rfl
theorem lvI_one (A : List Nat) : lvI A 1 = sgI A := by
  rw [lvI, lvI, show pkI [] = [] from by simp [pkI], mgI_nil']
theorem cells_new1 (w : World) (a : Value) (t : TypeId) : ∀ j u, [a][j]? = some u → (w.alloc (.cells #[a] t)).cell? ((⟨w.heap.size, 0, none⟩ : Addr).add j) = some u := by
  intro j u hj
  rw [addr0]
  exact (BC.new w w.heap.size #[a] t rfl).cell j u hj
theorem sg_at {Ws : List Nat} {k i o : Nat} (h : (ordL Ws)[i]? = some o) (hk : k + i + 1 = Ws.length) : ∃ z, Ws[o]? = some z ∧ (sgI (auL Ws))[k]? = some (z, true) := by
  have ho : o < Ws.length := ordL_lt (List.mem_of_getElem? h)
  refine ⟨Ws[o], List.getElem?_eq_getElem ho, ?_⟩
  unfold sgI auL
  rw [List.getElem?_map, List.getElem?_reverse (by rw [owL_len]; omega), owL_len, show Ws.length - 1 - k = i by omega]
  unfold owL
  rw [List.getElem?_map, h]
  simp [List.getD_eq_getElem?_getD, List.getElem?_eq_getElem ho]
/-- Rows of two numbers, as they grow. -/
structure Rw2 (W : World) (base : Nat) (skip : Option Nat) (Lr : List Value) (P : List (Nat × Nat)) : Prop where
  len : Lr.length = P.length
  row : ∀ (i t s : Nat), P[i]? = some (t, s) → ∃ g, Lr[i]? = some (.slice (some ⟨g, 0, none⟩) 2 2) ∧ base ≤ g ∧ g < W.heap.size ∧ skip ≠ some g ∧ W.cell? ⟨g, 0, none⟩ = some (.int .i64 (t : Int)) ∧ W.cell? ⟨g, 1, none⟩ = some (.int .i64 (s : Int))
theorem Rw2.nil (W : World) (base : Nat) (skip : Option Nat) : Rw2 W base skip [] [] := ⟨rfl, fun i t s h => by cases h⟩
theorem Rw2.grown {W W' : World} {base : Nat} {skip row : Option Nat} {Lr : List Value} {P : List (Nat × Nat)} (h : Rw2 W base skip Lr P) (hg : W.grownBy W' row) (hne : ∀ g, base ≤ g → skip ≠ some g → row ≠ some g ∨ ∃ o, W.heap[g]? = some o ∧ o.isCells = false) : Rw2 W' base skip Lr P := by
  refine ⟨h.len, fun i t s hi => ?_⟩
  obtain ⟨g, h1, h2, h3, h4, h5, h6⟩ := h.row i t s hi
  have hr : row ≠ some g := by
    rcases hne g h2 h4 with h | ⟨o, ho, hc⟩
    · exact h
    · exfalso
      obtain ⟨o', ho', hc'⟩ := cells_of_cell h5
      rw [show W.heap[g]? = some o' from ho'] at ho
      cases ho
      rw [hc] at hc'
      cases hc'
  exact ⟨g, h1, h2, Nat.lt_of_lt_of_le h3 hg.size, h4, (World.cell?_of_block (hg.block g h3 (fun e => hr e.symm))).trans h5, (World.cell?_of_block (hg.block g h3 (fun e => hr e.symm))).trans h6⟩
theorem Rw2.set {W : World} {base p o : Nat} {skip : Option Nat} {Lr : List Value} {P : List (Nat × Nat)} {v : Value} (h : Rw2 W base skip Lr P) (hp : p < base) : Rw2 (W.setCell ⟨p, o, none⟩ v) base skip Lr P := by
  refine ⟨h.len, fun i t s hi => ?_⟩
  obtain ⟨g, h1, h2, h3, h4, h5, h6⟩ := h.row i t s hi
  exact ⟨g, h1, h2, by simpa using h3, h4, (World.cell?_setCell_other _ _ _ _ (fun e => by have := congrArg Addr.block e; simp at this; omega)).trans h5, (World.cell?_setCell_other _ _ _ _ (fun e => by have := congrArg Addr.block e; simp at this; omega)).trans h6⟩
theorem Rw2.app {W W' : World} {base : Nat} {skip skip' : Option Nat} {Lr : List Value} {P : List (Nat × Nat)} {g t s : Nat} (h : Rw2 W base skip Lr P) (hg : W.grownBy W' skip) (hat : skip' = skip ∨ skip' = some W.heap.size) (h2 : base ≤ g) (h3 : g < W.heap.size) (h4 : skip ≠ some g)
    (h5 : W.cell? ⟨g, 0, none⟩ = some (.int .i64 (t : Int))) (h6 : W.cell? ⟨g, 1, none⟩ = some (.int .i64 (s : Int))) : Rw2 W' base skip' (Lr ++ [.slice (some ⟨g, 0, none⟩) 2 2]) (P ++ [(t, s)]) := by
  have hs : ∀ j, j < W.heap.size → skip ≠ some j → skip' ≠ some j := fun j hj hne e => by
    rcases hat with h | h
    · exact hne (h ▸ e)
    · rw [h] at e
      have : W.heap.size = j := by simpa using e
      omega
  have kp : ∀ (b o : Nat) (u : Value), b < W.heap.size → skip ≠ some b → W.cell? ⟨b, o, none⟩ = some u → W'.cell? ⟨b, o, none⟩ = some u := fun b o u hb hne hc => (World.cell?_of_block (hg.block b hb (fun e => hne e.symm))).trans hc
  refine ⟨by simp [h.len], fun i t' s' hi => ?_⟩
  by_cases hil : i < P.length
  · rw [List.getElem?_append_left hil] at hi
    obtain ⟨g', a1, a2, a3, a4, a5, a6⟩ := h.row i t' s' hi
    exact ⟨g', by rw [List.getElem?_append_left (by rw [h.len]; exact hil)]; exact a1, a2, Nat.lt_of_lt_of_le a3 hg.size, hs g' a3 a4, kp _ _ _ a3 a4 a5, kp _ _ _ a3 a4 a6⟩
  · have hlt := (List.getElem?_eq_some_iff.1 hi).1
    rw [List.length_append] at hlt
    simp at hlt
    obtain rfl : i = P.length := by omega
    rw [List.getElem?_append_right (Nat.le_refl _), Nat.sub_self] at hi
    cases hi
    exact ⟨g, by rw [← h.len]; simp, h2, Nat.lt_of_lt_of_le h3 hg.size, hs g h3 h4, kp _ _ _ h3 h4 h5, kp _ _ _ h3 h4 h6⟩
theorem tk_step {A : List Nat} (hA : A.Pairwise (· ≤ ·)) {k M j kj mj : Nat} (h1 : kj + j = k) (h2 : 1 ≤ kj) (h : tkI A k M = (tkI A k M).take j ++ tkI A kj mj) (hm : mj ≤ (lvI A kj).length) {s : Nat} (hs : sgN ((lvI A kj).take mj) = s) :
    (tkI A k M).take (j + 1) = (tkI A k M).take j ++ [(mj, s)] ∧ tkI A k M = (tkI A k M).take (j + 1) ++ tkI A (k - (j + 1)) (2 * (mj - s)) ∧ 2 * (mj - s) ≤ (lvI A (k - (j + 1))).length ∧ s ≤ mj := by
  obtain ⟨t, rfl⟩ : ∃ t, kj = t + 1 := ⟨kj - 1, by omega⟩
  obtain ⟨s', g1, g2, -, g4, -⟩ := lvI_split hA hm
  rw [hs] at g1
  subst g1
  have ht : k - (j + 1) = t := by omega
  have hl := tkI_len A k M
  have hl2 : ((tkI A k M).take j).length = j := by rw [List.length_take, hl]; omega
  have e1 : (tkI A k M).take (j + 1) = (tkI A k M).take j ++ [(mj, s)] := by
    conv => lhs; rw [h]
    rw [List.take_append, hl2, Nat.add_sub_cancel_left, List.take_of_length_le (by rw [hl2]; omega), tkI, hs]
    rfl
  refine ⟨e1, ?_, by rw [ht]; exact g4, g2⟩
  rw [e1, ht]
  conv => lhs; rw [h, tkI, hs]
  simp
/-- What is taken, as it is counted. -/
structure TkB (w0 : World) (p q : Nat) (A : List Nat) (m M j : Nat) (W : World) : Prop where
  os : W.os = w0.os
  tape : W.tape = w0.tape
  output : W.output = w0.output
  size : w0.heap.size ≤ W.heap.size
  same : ∀ b, b < w0.heap.size → b ≠ p → b ≠ q → W.heap[b]? = w0.heap[b]?
  row : ∃ v Lr, BC W p [v] ∧ W.ownsRow w0.heap.size 32 1 v j Lr ∧ Rw2 W w0.heap.size v.ownBlock Lr ((tkI A m M).take j)
  tk : ∃ mj : Nat, BC W q [.int .i64 (mj : Int)] ∧ mj ≤ (lvI A (m - j)).length ∧ tkI A m M = (tkI A m M).take j ++ tkI A (m - j) mj
theorem TkB.grown {w0 W W' : World} {p q m M j : Nat} {A : List Nat} {row : Option Nat} (h : TkB w0 p q A m M j W) (hp : p < w0.heap.size) (hq : q < w0.heap.size) (hg : W.grownBy W' row) (hr : ∀ l, row = some l → w0.heap.size ≤ l ∧ ∃ o, W.heap[l]? = some o ∧ o.isCells = false) : TkB w0 p q A m M j W' := by
  obtain ⟨v, Lr, h1, h2, h3⟩ := h.row
  obtain ⟨mj, k1, k2, k3⟩ := h.tk
  refine ⟨hg.os.trans h.os, hg.tape.trans h.tape, hg.output.trans h.output, Nat.le_trans h.size hg.size, fun b hb h1 h2 => (hg.block b (Nat.lt_of_lt_of_le hb h.size) (fun e => by have := (hr b e.symm).1; omega)).trans (h.same b hb h1 h2), ⟨v, Lr, h1.grown hg (fun e => by have := (hr p e.symm).1; omega), own_grown h2 hg (fun g hgv e => ?_), h3.grown hg (fun g hb hs => ?_)⟩, mj, k1.grown hg (fun e => by have := (hr q e.symm).1; omega), k2, k3⟩
  · obtain ⟨-, o, ho, hc⟩ := hr g e
    obtain ⟨_, _, _, u, hu, hcu⟩ := ownsRow_form h2 hgv
    rw [ho] at hu
    cases hu
    rw [hc] at hcu
    cases hcu
  · cases row with
    | none => exact .inl (by simp)
    | some l =>
      by_cases e : l = g
      · subst e
        exact .inr (hr l rfl).2
      · exact .inl (by simpa using e)
set_option maxRecDepth 100000 in
set_option maxHeartbeats 16000000 in
theorem Packages_in (n0 : Nat) (hn0 : 3 ≤ n0) (cap : Nat) (a : Option Addr) (L : List (Bool × ByteArray)) (m : Int) (hc : L.length ≤ cap) (hcm : cap ≤ maxLen) (h12 : L.length ≤ 12 ∨ 64 < L.length) (hz : ∀ x ∈ L, x.2.size ≤ 8) (hm : (Lit.int .i64 m).wf = true) (w : World) (hSl : Sl w a L) :
    CallsIn Fence.wide n0 Try.prog 27 #[.slice a L.length cap, .int .i64 m] w (PkP L m w) := by
  have hal0 : Below w.heap.size w (w.alloc (.cells #[.slice a L.length cap] 24)) := (Below.refl _ _).alloc (Nat.le_refl _) _
  have HCK := Lib.hid (check39_any cap a L m (Nat.le_trans hc hcm) (fun x hx => Nat.le_trans (hz x hx) (by decide)) hm (w.alloc (.cells #[.slice a L.length cap] 24)) (hSl.below hal0))
  have HB0 := Lib.hid hal0
  have HX0 := Lib.hid (BC.new w w.heap.size #[.slice a L.length cap] 24 rfl)
  clear hal0
  have h1n : 1 ≤ n0 := by omega
  refine callsIn_of_wp_marks Try.func27 rfl trivial ?_ rfl
  simp only [Try.ntmps27, List.size_toArray, List.length_cons, List.length_nil, Nat.reduceAdd, Nat.reduceSub, Array.replicate_succ, Array.replicate_zero, List.push_toArray, List.append_toArray, List.nil_append, List.cons_append]
  by_cases h0 : ¬ limE L m = 0
  · obtain ⟨E, hE⟩ : ∃ E, limE L m = E := ⟨_, rfl⟩
    have HE := Lib.hid hE
    rw [hE] at HCK h0
    have hne : (E != 0) = true := by simpa using h0
    have HN := Lib.hid h0
    clear h0 hE hSl hz
    have x0 := HX0.out.at 0 _ rfl
    gi_wp2_with fail
    refine ⟨trivial, callsIn_wide.2 ?_⟩
    refine HCK.out.mono ?_
    rintro e w1 ⟨rfl, hb⟩
    have HB := Lib.hid hb
    clear hb x0
    gi_wp2_with fail
    refine ⟨.tuple #[.slice none 0 0, .int .i64 E], ?_, ?_⟩
    · simp [results, Try.f27, go_sem]
    · unfold PkP
      rw [HE.out]
      exact ⟨fun _ => rfl, fun h => absurd h HN.out, bstep HB0.out HB.out⟩
  · have h0 := Decidable.not_not.1 h0
    obtain ⟨hck, m, rfl, hk1, hk64, hk2⟩ := limE_ok h0
    obtain ⟨h2, h64, Ws, hWs⟩ := chkW_ok hck
    obtain rfl : L = VL Ws := hWs
    have HL0 := Lib.hid h0
    rw [h0] at HCK
    obtain ⟨A, rfl⟩ := hSl.some9 (by omega)
    rw [VL_len] at hc h2 h64 h12 hk2 HCK HX0 HB0 ⊢
    have HOR := Lib.hid (fun W (hb : Below w.heap.size w W) => order_any A cap Ws (by omega) (by omega) hc hcm (VLlt9 hz) W (hSl.below hb))
    have HSL := Lib.hid hSl
    have HWZ := Lib.hid (VLlt9 hz)
    have HOLN := Lib.hid (ordL_len Ws)
    obtain ⟨n, hn⟩ : ∃ n, Ws.length = n := ⟨_, rfl⟩
    have HNN := Lib.hid hn
    have h12n : n ≤ 12 := by omega
    have h2n : 2 ≤ n := by omega
    have HK2 := Lib.hid hk2
    rw [hn] at HCK HOR HOLN HX0 HB0 HK2 ⊢
    clear h0 hSl hz hn hc h12 hk2 hck h2 h64
    have x0 := HX0.out.at 0 _ rfl
    gi_wp2_with fail
    refine ⟨trivial, callsIn_wide.2 ?_⟩
    refine HCK.out.mono ?_
    rintro e w1 ⟨rfl, hb⟩
    have hal : Below w1.heap.size w1 (w1.alloc (.cells #[.slice none 0 0] 90)) := (Below.refl _ _).alloc (Nat.le_refl _) _
    have HB1 := Lib.hid (bstep HB0.out (hb.trans (hal.mono hb.size)))
    have HX1 := Lib.hid ((HX0.out.below hb).below hal)
    have HP1 := Lib.hid (BC.new w1 w1.heap.size #[.slice none 0 0] 90 rfl)
    have HLT := Lib.hid (show w.heap.size < w1.heap.size from by have := hb.size; simp at this; omega)
    clear hb hal HX0 HB0 HCK x0
    obtain ⟨B0, hB0⟩ : ∃ b, w.heap.size = b := ⟨_, rfl⟩
    have HBB := Lib.hid hB0
    rw [hB0] at HX1 ⊢
    have x1 := HX1.out.at 0 _ rfl
    gi_wp2_with fail
    obtain ⟨p7, hp7⟩ : ∃ b, w1.heap.size = b := ⟨_, rfl⟩
    have HP7 := Lib.hid hp7
    rw [hp7] at HP1 ⊢
    obtain ⟨y1, hy1⟩ : ∃ X, w1.alloc (.cells #[.slice none 0 0] 90) = X := ⟨_, rfl⟩
    have HY1 := Lib.hid (show y1.heap.size = p7 + 1 from by rw [← hy1]; simp [hp7])
    rw [hy1] at HB1 HX1 HP1 x1 ⊢
    clear hy1 hp7
    refine ⟨trivial, callsIn_wide.2 ?_⟩
    refine (HOR.out _ HB1.out).mono ?_
    rintro e w2 ⟨go, rfl, hgo, hbo, hb2⟩
    have HB2 := Lib.hid (bstep HB1.out hb2)
    have HX2 := Lib.hid (HX1.out.below hb2)
    have HP2 := Lib.hid (HP1.out.below hb2)
    have HO2 := Lib.hid hbo
    have HG2 := Lib.hid (show p7 < go ∧ go < w2.heap.size from ⟨by have := HY1.out; omega, hbo.lt⟩)
    clear hgo hbo hb2 HOR HB1 HX1 HP1 x1
    gi_wp2_with fail
    refine ⟨trivial, callsIn_wide.2 ?_⟩
    refine (backN_any _ _ _ _).mono ?_
    rintro e w3 ⟨rfl, e3⟩
    obtain ⟨bk, hbk⟩ : ∃ b, w2.heap.size = b := ⟨_, rfl⟩
    have hal : Below w2.heap.size w2 w3 := by rw [e3]; exact (Below.refl _ _).alloc (Nat.le_refl _) _
    have HB3 := Lib.hid (bstep HB2.out hal)
    have HX3 := Lib.hid (HX2.out.below hal)
    have HP3 := Lib.hid (HP2.out.below hal)
    have HO3 := Lib.hid (HO2.out.below hal)
    have HS3 := Lib.hid (show w3.heap.size = bk + 1 from by rw [e3]; simp [hbk])
    have HR3 := Lib.hid (show BwR w3 bk go n (natV (ordL Ws)) from ⟨by
      have := (BC.new w2 bk #[.slice (some ⟨go, 0, none⟩) n n] 32 hbk.symm).at 0 _ rfl
      rw [← e3] at this
      rw [natV_length, HOLN.out]; exact this, fun i v hi => HO3.out.at i v hi⟩)
    have HG3 := Lib.hid (show p7 < go ∧ go < bk ∧ B0 < p7 from ⟨HG2.out.1, by rw [← hbk]; exact HG2.out.2, by have := HLT.out; have := HP7.out; have := HBB.out; omega⟩)
    rw [hbk]
    clear e3 hal hbk HB2 HX2 HP2 HO2 HG2
    gi_wp2_with fail
    obtain ⟨i0, hi0, hz0, hz1, hz2⟩ := info_parts infoIt
    refine wpIn_range_own rfl h1n (gf := 109) (lb := #[.pointer (some ⟨bk, 0, none⟩)]) rfl trivial (enters_of Try.func109 (by kernel_rfl) rfl)
      (encs := fun x : Nat × Value => #[.int .i64 (x.1 : Int), x.2]) (X := fun _ => False) (Kp := KpB bk go) (Sm := fun xs _ => xs <+: bwL (natV (ordL Ws))) (S := fun xs _ => xs = bwL (natV (ordL Ws)))
      ?gives (fun k hk => hk.elim) KpB.trans (fun _ => rfl) ?hKb (fun pre W => SgB w3 p7 (auL Ws) pre.length W) ?hI ?hIo (fun _ _ _ _ _ hs _ _ _ => hs) (fun _ _ _ _ _ hs _ _ _ => hs)
      ⟨⟨rfl, rfl, rfl, Nat.le_refl _, fun _ _ _ => rfl⟩, _, HP3.out, own_nil _ _ _ _⟩ ?a1 ?assign ?body ?done
    case assign =>
      intro l x W K hK
      have HK := Lib.hid hK
      clear hK
      gi_wp2
      exact HK.out
    case gives =>
      intro l J W1 hb1 hJ hY hJ0
      refine (bwN_in (n0 - 1) (by omega) l bk go n (natV (ordL Ws)) (by rw [natV_length, HOLN.out]; omega) J hY W1 (HR3.out.below hb1) hJ0).mono ?_
      rintro e W' ⟨hv, xs, hx, hj⟩
      exact ⟨hv, xs, hx, hj⟩
    case hKb =>
      intro W l o o' hl hlo _ _
      exact ⟨by simp, fun k hk => World.putObj_heap_other (by have := HS3.out; have := HG3.out; omega)⟩
    case hI =>
      rintro pre U V ⟨hg, v, hv, hr⟩ hUV
      have hgr : U.grownBy V none := ⟨hUV.os, hUV.tape, hUV.output, hUV.size, fun k hk _ => hUV.same k hk (fun h => h)⟩
      exact ⟨hg.andThen hgr (fun j hj => by cases hj), v, hv.grown hgr (by simp), own_grown hr hgr (by simp)⟩
    case hIo =>
      rintro pre U l o o' ⟨hg, v, hv, hr⟩ hl hlo ho
      have hgr := grownBy_putObj' U l o'
      have h3 := HS3.out
      have h4 := HG3.out
      refine ⟨hg.andThen hgr (fun j hj => .inl (by cases hj; omega)), v, hv.grown hgr (by simp; omega), ownsRow_keep hr fun k u hk hu hc => (World.putObj_heap_other (fun e => by subst e; rw [hlo] at hu; cases hu; rw [ho] at hc; cases hc)).trans hu⟩
    case body =>
      rintro l pre ⟨xi, xv⟩ U ⟨hg, v, hv, hr⟩ hs
      obtain ⟨hx1, hx2⟩ := bwL_key hs
      obtain ⟨o, ho, hxo⟩ := natV_ex hx2
      simp only at hx1 hx2 ho hxo
      subst hxo
      obtain ⟨z, hz, hsg⟩ := sg_at (k := pre.length) ho (by rw [natV_length, HOLN.out] at hx1; rw [HNN.out]; omega)
      have hoI : (o : Int) < n := by have := (List.getElem?_eq_some_iff.1 hz).1; rw [HNN.out] at this; omega
      have hbU : Below w.heap.size w U := HB3.out.grown hg (by have := HB3.out.size; exact this) (fun k e => by cases e; have := HG3.out; have := HBB.out; omega)
      obtain ⟨A', eA, c0, c1⟩ := (HSL.out.below hbU) o false (mg z) (by unfold VL; rw [List.getElem?_map, hz]; rfl)
      cases eA
      have c2 : U.cell? ⟨(A.add (o * 2)).block, (A.add (o * 2)).off + 1, none⟩ = some (.string (mg z)) := by rw [addr_next]; exact c1
      have cB := (HX3.out.grown hg (by have := HG3.out; simp; omega)).at 0 _ rfl
      have c7 := hv.at 0 v rfl
      have HT := Lib.hid (itV_take hsg)
      have hpl : pre.length + 1 ≤ 64 := by rw [natV_length, HOLN.out] at hx1; omega
      have HGU := Lib.hid (gDrewB hg)
      have HVU := Lib.hid hv.drew
      have HRU := Lib.hid (show U.drew.ownsRow w3.heap.size 95 3 v pre.length (itV ((sgI (auL Ws)).take pre.length)) from hr.drew)
      have c0d : U.drew.cell? (A.add (o * 2)) = some (.bool false) := c0
      have c2d : U.drew.cell? ⟨(A.add (o * 2)).block, (A.add (o * 2)).off + 1, none⟩ = some (.string (mg z)) := c2
      have cBd : U.drew.cell? ⟨B0, 0, none⟩ = some (.slice (some A) n cap) := cB
      have c7d : U.drew.cell? ⟨p7, 0, none⟩ = some v := c7
      have HKD := Lib.hid (show U.drew.heap = U.heap ∧ KeepsFrom w3.heap.size U U.drew from ⟨rfl, ⟨Nat.le_refl _, fun _ _ _ h _ => h⟩⟩)
      clear hs hx1 hx2 ho hz hsg hbU c0 c2 cB c7 hg hv hr HB3
      gi_wp2_with fail
      refine wpIn_region_mixD (fun y => ∃ u : Cl U.drew, y = u.x) [.q [0, 1, 2, 3, 4, 5], .r 6, .r 7, .r 8] [7, 8] (FnW.round l) (by kernel_rfl) (by kernel_rfl) (by intro d v c a w h; cases d <;> exact h) ⟨⟨_, Below.refl _ _⟩, rfl⟩ ?_
      obtain ⟨X0, hX⟩ : ∃ X, U.drew = X := ⟨_, rfl⟩
      rw [hX] at HGU HVU HRU c0d c2d cBd c7d HKD ⊢
      clear hX
      refine wpMixDI_q ?_
      simp only [pickO, List.map_cons, List.map_nil, List.getElem?_toArray, List.getElem?_cons_succ, List.getElem?_cons_zero, Option.getD_some]
      haveI := cls_some X0
      have x0 := fun u : Cl X0 => (u.h.cell (World.block_lt_of_cell? _ _ c0d)).trans c0d
      have x2 := fun u : Cl X0 => (u.h.cell (World.block_lt_of_cell? _ _ c2d)).trans c2d
      have x3 := fun u : Cl X0 => (u.h.cell (World.block_lt_of_cell? _ _ cBd)).trans cBd
      have x4 := fun u : Cl X0 => (u.h.cell (World.block_lt_of_cell? _ _ c7d)).trans c7d
      iterate 6 (go_big_quiet_step (fail))
      refine wpQuiet_nil ?_
      clear this x0 x2 x3 x4 c0d c2d cBd c7d
      refine wpMixDI_r ?_
      simp only [pickO, List.map_cons, List.map_nil, List.getElem?_toArray, List.getElem?_cons_succ, List.getElem?_cons_zero, Option.getD_some]
      gi_wp2_with fail
      refine mixQDI_ok ⟨⟨_, (Below.refl _ _).alloc (Nat.le_refl _) _⟩, rfl⟩ ?_
      refine wpMixDI_r ?_
      simp only [pickO, List.map_cons, List.map_nil, List.getElem?_toArray, List.getElem?_cons_succ, List.getElem?_cons_zero, Option.getD_some]
      have hsz3 : w3.heap.size ≤ X0.heap.size := HGU.out.size
      have hp73 : p7 < w3.heap.size := by have := HS3.out; have := HG3.out; omega
      gi_wp2_with (gi_at_builtin; refine wpListIn_append_own_at _ rfl _ _ 90 rfl w3.heap.size 95 i0 (.agg #[.bool false, .string ⟨#[]⟩, .bool false]) 3 32 Try.underlying90 hi0 hz0 hz1 hz2 rfl (by decide) _ _ _ rfl (HRU.out.alloc _) ⟨X0.heap.size, 0, none⟩ 1 1 [.bool false, .string (mg z), .bool true] rfl rfl (cells_new3 _ _ _ _ _) (by simp [Value.oneCell']) (by unfold maxLen; omega) (by omega) (by simp; omega) ?_; intro v' w5 hown' hgrow _ hat; obtain ⟨g', cap', rfl⟩ := ownsRow_succ hown'; have HD := Lib.hid (app_step HVU.out HRU.out hsz3 hp73 hown' hgrow hat); have hp := app_pre HVU.out HRU.out hp73 hgrow; have c5 := hp.at 0 v rfl; have f5 := hp.z 0 (show 0 < 1 by decide); clear hown' hgrow hat hp)
      refine mixQDI_end rfl ?_
      refine wpMixDI_r ?_
      simp only [pickO, List.map_cons, List.map_nil, List.getElem?_toArray, List.getElem?_cons_succ, List.getElem?_cons_zero, Option.getD_some]
      gi_wp2_with fail
      refine mixQDI_end rfl ?_
      refine wpMixDI_nil ?_
      gi_wp2_with fail
      have hd := HD.out
      refine ⟨HKD.out.2.trans (hd.keeps _), ⟨by rw [← HKD.out.1]; exact hd.kp.size, fun k hk => ?_⟩, ⟨hd.os.trans HGU.out.os, hd.tape.trans HGU.out.tape, hd.output.trans HGU.out.output, Nat.le_trans HGU.out.size hd.kp.size, fun k hk hne => (hd.same k hk (fun e => hne (by rw [e]))).trans (HGU.out.block k hk hne)⟩, _, hd.box, by rw [HT.out]; exact hd.row⟩
      rw [← HKD.out.1]
      exact hd.same k (by have := HS3.out; have := HG3.out; omega) (by have := HG3.out; omega)
    case done =>
      rintro D1 xs U hD hxs ⟨hg, v, hv, hr⟩ hK
      have hxl : xs.length = n := by rw [hxs, bwL_len, natV_length, HOLN.out]
      rw [hxl, List.take_of_length_le (by rw [sgI_len, auL_len, HNN.out]; exact Nat.le_refl _)] at hr
      obtain ⟨gs, cs, rfl, hcs1, hcs2, hgs, hos⟩ := OwnAt.of hr (by omega) (by rw [itV_len, sgI_len, auL_len, HNN.out])
      obtain ⟨Aw, hAw⟩ : ∃ x, auL Ws = x := ⟨_, rfl⟩
      have HAW := Lib.hid hAw
      rw [hAw] at hos hr
      have HSI := Lib.hid (ItS.of hos)
      have HCS := Lib.hid (show n ≤ cs ∧ cs ≤ maxLen ∧ gs < U.heap.size from ⟨hcs1, hcs2, (own_base hr rfl).2⟩)
      have HVB := Lib.hid hv
      have HBU := Lib.hid (show Below w.heap.size w U from HB3.out.grown hg (by have := HB3.out.size; exact this) (fun k e => by cases e; have := HG3.out; have := HBB.out; omega))
      have HDLE := Lib.hid (show w3.heap.size ≤ D1 from hD)
      have HXU := Lib.hid (HX3.out.grown hg (by have := HG3.out; simp; omega))
      have HDU := Lib.hid hK
      have HAl := Lib.hid (show Aw.length = n from by rw [← hAw, auL_len, HNN.out])
      have HAs := Lib.hid (show Aw.Pairwise (· ≤ ·) from by rw [← hAw]; exact auL_asc Ws)
      have HLB := Lib.hid (show ∀ t, t ≤ 65 → ∀ x ∈ lvI Aw t, x.1 < 2 ^ 140 from fun t ht x hx => Nat.lt_of_lt_of_le (lvI_bd (N := 64) (fun z hz => by
        rw [← hAw] at hz
        unfold auL owL at hz
        obtain ⟨o, ho, rfl⟩ := List.mem_map.1 (List.mem_reverse.1 hz)
        have ho := ordL_lt ho
        exact HWZ.out _ (by rw [List.getD_eq_getElem?_getD, List.getElem?_eq_getElem ho]; exact List.getElem_mem _)) t x hx) (Nat.pow_le_pow_right (by decide) (by omega)))
      clear hxs hg hr hv hK hos hAw hgs hcs1 hcs2 hxl HX3 HP3 HO3 HR3 HB3
      obtain ⟨Bs, hBs⟩ : ∃ b, U.heap.size = b := ⟨_, rfl⟩
      have HBS := Lib.hid hBs
      have c7 := HVB.out.at 0 _ rfl
      obtain ⟨iR, hiR, hzR, hzR1, hzR2⟩ := info_parts infoRi
      have hmaxI : (m : Int) ≤ 64 := by omega
      gi_wp2_with fail
      gi_loopg [11] (m + 1) (fun gg v11 wr => ∃ (k gl cl : Nat) (Lv : List Value), v11 = .slice (some ⟨gl, 0, none⟩) k cl ∧ 1 ≤ k ∧ k ≤ m ∧ m - k < gg ∧ wr.ownsRow Bs 90 1 (.slice (some ⟨gl, 0, none⟩) k cl) k Lv ∧ LvR wr (some gl) Lv Aw k ∧ Below Bs U wr)
      case atStart =>
        refine ⟨1, Bs, 1, [.slice (some ⟨gs, 0, none⟩) n cs], rfl, Nat.le_refl _, hk1, by omega, ⟨rfl, .inr ⟨Bs, 1, #[.slice (some ⟨gs, 0, none⟩) n cs], rfl, Nat.le_refl _, by rw [← hBs]; exact heap_alloc_new U _, Nat.le_refl _, by decide, rfl, rfl⟩⟩, ⟨rfl, fun i v hi => ?_⟩, by rw [← hBs]; exact (Below.refl _ _).alloc (Nat.le_refl _) _⟩
        have hil := (List.getElem?_eq_some_iff.1 hi).1
        simp only [List.length_cons, List.length_nil] at hil
        obtain rfl : i = 0 := by omega
        cases hi
        refine ⟨gs, cs, by rw [lvI_one, sgI_len, HAl.out], by rw [lvI_one, sgI_len, HAl.out]; exact HCS.out.1, HCS.out.2.1, by have := HCS.out.2.2; simp; omega, by have := HCS.out.2.2; simp; omega, ?_⟩
        rw [lvI_one]
        exact HSI.out.below ((Below.refl _ _).alloc (Nat.le_refl _) _)
      case round =>
        obtain ⟨k, gl, cl, Lv, rfl, hk1', hkm, hkg, hlo, hlr, hbl⟩ := hrel
        obtain ⟨V, rfl⟩ : ∃ X, X = wr := ⟨_, rfl⟩
        have HKG := Lib.hid hkg
        have HLO := Lib.hid hlo
        have HLR := Lib.hid hlr
        have HBK := Lib.hid hbl
        have c7' : V.cell? ⟨p7, 0, none⟩ = some (.slice (some ⟨gs, 0, none⟩) n cs) := (hbl.cell (p := ⟨p7, 0, none⟩) (by have := HVB.out.lt; rw [HBS.out] at this; exact this)).trans c7
        clear c7 hkg hlo hlr hbl hBs
        by_cases hlt : k < m
        · have hltI : (k : Int) < (m : Int) := by omega
          obtain ⟨r, hr⟩ : ∃ r, k - 1 = r := ⟨_, rfl⟩
          have hrI : (k : Int) - 1 = (r : Int) := by omega
          have hrk : (r : Int) < (k : Int) := by omega
          obtain ⟨vl, hvl⟩ : ∃ v, Lv[r]? = some v := ⟨Lv[r]'(by rw [HLR.out.len]; omega), List.getElem?_eq_getElem _⟩
          obtain ⟨g, c, rfl, hc1, hc2, hgl, hgs', his⟩ := HLR.out.row r vl hvl
          have cr := (BC.of_own HLO.out).at r _ hvl
          rw [show r + 1 = k by omega] at hc1 his cr
          have HRK := Lib.hid hr
          obtain ⟨last, hlast⟩ : ∃ x, lvI Aw k = x := ⟨_, rfl⟩
          have HLA := Lib.hid hlast
          have hnl1 := lvI_ge Aw r
          have hnl2 := lvI_le Aw k
          rw [show r + 1 = k by omega, HAl.out, hlast] at hnl1
          rw [HAl.out, hlast] at hnl2
          rw [hlast] at hc1 his cr
          obtain ⟨nl, hnl⟩ : ∃ x, last.length = x := ⟨_, rfl⟩
          have HNL := Lib.hid hnl
          rw [hnl] at hc1 hnl1 hnl2 cr
          have HIS := Lib.hid his
          have HGC := Lib.hid (And.intro hc1 (And.intro hc2 hgl))
          have HC7 := Lib.hid c7'
          have hnl24 : nl ≤ 24 := by omega
          have hnl2' : 2 ≤ nl := by omega
          obtain ⟨B2, hB2⟩ : ∃ b, V.heap.size = b := ⟨_, rfl⟩
          have HB2 := Lib.hid hB2
          clear hvl hr hlast hnl his hc1 hc2 hgl hgs' hB2 hnl1 hnl2
          gi_wp2_with fail
          gi_loopg [13, 14] (nl + 1) (fun gg v13 v14 wq => ∃ j : Nat, v14 = .int .i64 ((2 * j : Nat) : Int) ∧ 2 * j ≤ nl ∧ nl - j < gg ∧ wq.ownsRow B2 95 3 v13 j (itV ((pkI last).take j)) ∧ Below B2 V wq)
          case atStart => exact ⟨0, rfl, Nat.zero_le _, by omega, own_nil _ _ _ _, by rw [← HB2.out]; exact Below.refl _ _⟩
          case round =>
            obtain ⟨j, rfl, hj, hjg, hjo, hjb⟩ := hrel
            clear cr c7'
            have HJG := Lib.hid hjg
            have HJO := Lib.hid hjo
            have HJB := Lib.hid hjb
            clear hjg hjo hjb
            obtain ⟨i, hi⟩ : ∃ i, 2 * j = i := ⟨_, rfl⟩
            have HIJ := Lib.hid hi
            rw [hi] at hj ⊢
            obtain ⟨v, rfl⟩ : ∃ X, X = u13 := ⟨_, rfl⟩
            by_cases hin : i + 1 < nl
            · have hinI : (i : Int) + 1 < (nl : Int) := by omega
              have hi1 : (i : Int) < (nl : Int) := by omega
              obtain ⟨x, hx⟩ : ∃ x, last[i]? = some x := ⟨last[i]'(by rw [HNL.out]; omega), List.getElem?_eq_getElem _⟩
              obtain ⟨y, hy⟩ : ∃ y, last[i + 1]? = some y := ⟨last[i + 1]'(by rw [HNL.out]; omega), List.getElem?_eq_getElem _⟩
              have HPG := Lib.hid (show (pkI last)[j]? = some (x.1 + y.1, false) from pkI_get (by rw [hi]; exact hx) (by rw [hi]; exact hy))
              have HPT := Lib.hid (itV_take HPG.out)
              have hxb := HLB.out k (by omega) x (by rw [HLA.out]; exact List.mem_of_getElem? hx)
              have hyb := HLB.out k (by omega) y (by rw [HLA.out]; exact List.mem_of_getElem? hy)
              have hjb' : Below V.heap.size V wr := by rw [HB2.out]; exact HJB.out
              obtain ⟨e0, e1, -⟩ := (HIS.out.below hjb').at3 hx
              obtain ⟨f0, f1, -⟩ := (HIS.out.below hjb').at3 hy
              obtain ⟨o1, ho1⟩ : ∃ o, i * 3 = o := ⟨_, rfl⟩
              obtain ⟨o2, ho2⟩ : ∃ o, (i + 1) * 3 = o := ⟨_, rfl⟩
              rw [ho1] at e0 e1
              rw [ho2] at f0 f1
              obtain ⟨xn, xb⟩ := x
              obtain ⟨yn, yb⟩ := y
              have HADD := Lib.hid (fun W => callsIn_wide (n := n0 - 1).2 (cAddN (x := xn) (d := yn) 140 140 hxb hyb (by decide) (by decide) W))
              have hb24 : j + 1 ≤ 24 := by omega
              clear hx hy hxb hyb hjb' hi
              gi_wp2_with fail
              refine Go.wpIn_mono (Q := noQD _) ?_ noQD_of
              refine wpIn_region_mixD (fun y => ∃ u : Cl wr.drew, y = u.x) [.q [0, 1, 2, 3, 4, 5, 6, 7, 8, 9, 10, 11], .r 12, .q [13], .r 14, .r 15, .r 16] [15, 16] FnW.wide (by kernel_rfl) (by kernel_rfl) (fun _ _ _ _ _ h => h) ⟨⟨_, Below.refl _ _⟩, rfl⟩ ?_
              have HJO1 := Lib.hid HJO.out.drew
              have HJB1 := Lib.hid (show Below B2 V wr.drew from HJB.out.trans ⟨rfl, rfl, rfl, Nat.le_refl _, fun _ _ => rfl⟩)
              have e0d : wr.drew.cell? ⟨g, o1, none⟩ = some (.bool false) := e0
              have e1d : wr.drew.cell? ⟨g, o1 + 1, none⟩ = some (.string (mg xn)) := e1
              have f0d : wr.drew.cell? ⟨g, o2, none⟩ = some (.bool false) := f0
              have f1d : wr.drew.cell? ⟨g, o2 + 1, none⟩ = some (.string (mg yn)) := f1
              obtain ⟨X0, hX⟩ : ∃ X, wr.drew = X := ⟨_, rfl⟩
              rw [hX] at HJO1 HJB1 e0d e1d f0d f1d ⊢
              clear hX HJO HJB e0 e1 f0 f1
              refine wpMixDI_q ?_
              simp only [pickO, List.map_cons, List.map_nil, List.getElem?_toArray, List.getElem?_cons_succ, List.getElem?_cons_zero, Option.getD_some]
              haveI := cls_some X0
              have x0 := fun u : Cl X0 => (u.h.cell (World.block_lt_of_cell? _ _ e0d)).trans e0d
              have x1 := fun u : Cl X0 => (u.h.cell (World.block_lt_of_cell? _ _ e1d)).trans e1d
              have x2 := fun u : Cl X0 => (u.h.cell (World.block_lt_of_cell? _ _ f0d)).trans f0d
              have x3 := fun u : Cl X0 => (u.h.cell (World.block_lt_of_cell? _ _ f1d)).trans f1d
              iterate 12 (go_big_quiet_step (fail))
              refine wpQuiet_nil ?_
              clear this x0 x1 x2 x3 e0d e1d f0d f1d
              refine wpMixDI_r ?_
              simp only [pickO, List.map_cons, List.map_nil, List.getElem?_toArray, List.getElem?_cons_succ, List.getElem?_cons_zero, Option.getD_some]
              gi_wp2_with fail
              refine ⟨trivial, ?_⟩
              refine (HADD.out X0).mono ?_
              rintro e w4 ⟨rfl, hb4⟩
              have HJO2 := Lib.hid (own_grown HJO1.out (gRow hb4 none) (by simp))
              have HJB2 := Lib.hid (HJB1.out.trans (hb4.mono (by have := HJB1.out.size; rw [HB2.out] at this; exact this)))
              have HB4 := Lib.hid hb4
              have HSZ := Lib.hid (show B2 ≤ w4.heap.size from by have := HJB2.out.size; rw [HB2.out] at this; exact this)
              clear hb4 HJO1 HJB1
              gi_wp2_with fail
              refine mixQDI_ok ⟨⟨_, HB4.out⟩, rfl⟩ ?_
              refine wpMixDI_q ?_
              simp only [pickO, List.map_cons, List.map_nil, List.getElem?_toArray, List.getElem?_cons_succ, List.getElem?_cons_zero, Option.getD_some]
              haveI := cls_some X0
              iterate 1 (go_big_quiet_step (fail))
              refine wpQuiet_nil ?_
              clear this
              refine wpMixDI_r ?_
              simp only [pickO, List.map_cons, List.map_nil, List.getElem?_toArray, List.getElem?_cons_succ, List.getElem?_cons_zero, Option.getD_some]
              gi_wp2_with fail
              refine mixQDI_ok ⟨⟨_, bstep HB4.out ((Below.refl _ _).alloc (Nat.le_refl _) _)⟩, rfl⟩ ?_
              refine wpMixDI_r ?_
              simp only [pickO, List.map_cons, List.map_nil, List.getElem?_toArray, List.getElem?_cons_succ, List.getElem?_cons_zero, Option.getD_some]
              gi_wp2_with (gi_at_builtin; refine wpListIn_append_own_at _ rfl _ _ 90 rfl B2 95 i0 (.agg #[.bool false, .string ⟨#[]⟩, .bool false]) 3 32 Try.underlying90 hi0 hz0 hz1 hz2 rfl (by decide) _ _ _ rfl (HJO2.out.alloc _) ⟨w4.heap.size, 0, none⟩ 1 1 [.bool false, .string (mg (xn + yn)), .bool false] rfl rfl (cells_new3 _ _ _ _ _) (by simp [Value.oneCell']) (by unfold maxLen; omega) (by omega) (by have := HSZ.out; simp; omega) ?_; intro v' w5 hown' hgrow _ hat; have HO5 := Lib.hid hown'; have HG5 := Lib.hid hgrow; clear hown' hgrow hat)
              refine mixQDI_end rfl ?_
              refine wpMixDI_r ?_
              simp only [pickO, List.map_cons, List.map_nil, List.getElem?_toArray, List.getElem?_cons_succ, List.getElem?_cons_zero, Option.getD_some]
              gi_wp2_with fail
              refine mixQDI_end rfl ?_
              refine wpMixDI_nil ?_
              refine noQD_ok ?_
              gi_wp2_with fail
              gi_roundg (nl - j)
              case measure => have := HJG.out; omega
              case rel =>
                refine ⟨j + 1, by rw [show 2 * (j + 1) = i + 2 by have := HIJ.out; omega]; go_num, by have := HIJ.out; omega, by have := HIJ.out; omega, by rw [HPT.out]; exact HO5.out, ?_⟩
                exact ((HJB2.out.alloc (by have := HJB2.out.size; rw [HB2.out] at this; exact this) _)).grown HG5.out (by have := HSZ.out; simp; omega) (fun k e => (own_base HJO2.out e).1)
            · have hinB : decide ((i : Int) + 1 < (nl : Int)) = false := by simp; omega
              have hjl : j = nl / 2 := by have := HIJ.out; omega
              have hj1 : 1 ≤ j := by omega
              have ho := HJO.out
              rw [List.take_of_length_le (by rw [pkI_len, HNL.out, hjl]; exact Nat.le_refl _)] at ho
              obtain ⟨gp, cp, rfl, hcp1, hcp2, hgp, hop⟩ := OwnAt.of ho hj1 (by rw [itV_len, pkI_len, HNL.out, hjl])
              have c7w : wr.cell? ⟨p7, 0, none⟩ = some (.slice (some ⟨gs, 0, none⟩) n cs) := (HJB.out.cell (p := ⟨p7, 0, none⟩) (by have := World.block_lt_of_cell? _ _ HC7.out; rw [HB2.out] at this; exact this)).trans HC7.out
              have HMG := Lib.hid (by
                have := merge_any (sgI Aw) (pkI last) gs gp cs cp wr (by rw [sgI_len, HAl.out]; exact HCS.out.1) (by rw [pkI_len, HNL.out, ← hjl]; exact hcp1) HCS.out.2.1 hcp2 (by rw [sgI_len, HAl.out]; omega) (by rw [pkI_len, HNL.out]; omega)
                  (fun x hx => Nat.lt_of_lt_of_le (HLB.out 1 (by omega) x (by rw [lvI_one]; exact hx)) (Nat.pow_le_pow_right (by decide) (by decide)))
                  (fun x hx => Nat.lt_of_lt_of_le (HLB.out (k + 1) (by omega) x (by rw [lvI, HLA.out]; exact (mgI_mem x _ _).2 (.inr hx))) (Nat.pow_le_pow_right (by decide) (by decide)))
                  ((HSI.out.below (by rw [HBS.out]; exact HBK.out)).below (by rw [HB2.out]; exact HJB.out)) (ItS.of hop)
                rw [sgI_len, HAl.out, pkI_len, HNL.out, ← hjl] at this
                exact this)
              have HLE := Lib.hid (show lvI Aw (k + 1) = mgI (sgI Aw) (pkI last) ∧ (lvI Aw (k + 1)).length = n + j from ⟨by rw [lvI, HLA.out], by rw [lvI_len, HAl.out, HLA.out, HNL.out, hjl]⟩)
              clear ho hop hcp1 hcp2 hgp hj1 hjl
              gi_wp2_with fail
              refine ⟨trivial, callsIn_wide.2 ?_⟩
              refine HMG.out.mono ?_
              rintro e w6 ⟨v6, rfl, ho6, hb6⟩
              obtain ⟨g6, c6, rfl, hc61, hc62, hg6, ho6'⟩ := OwnAt.of ho6 (by omega) (by rw [itV_len, ← HLE.out.1, HLE.out.2])
              have HI6 := Lib.hid (show ItS w6 g6 (lvI Aw (k + 1)) from by rw [HLE.out.1]; exact ItS.of ho6')
              have HG6 := Lib.hid (show n + j ≤ c6 ∧ c6 ≤ maxLen ∧ wr.heap.size ≤ g6 ∧ g6 < w6.heap.size from ⟨hc61, hc62, hg6, (own_base ho6 rfl).2⟩)
              have hbv : Below V.heap.size V w6 := (show Below V.heap.size V wr from by rw [HB2.out]; exact HJB.out).trans (hb6.mono (by have := HJB.out.size; exact this))
              have hgl := own_base HLO.out rfl
              have HLO6 := Lib.hid (own_grown HLO.out (gRow hbv none) (by simp))
              have HLR6 := Lib.hid (HLR.out.below hbv)
              have HBV := Lib.hid hbv
              have HGL := Lib.hid (show gl < V.heap.size ∧ V.heap.size ≤ wr.heap.size from ⟨hgl.2, HJB.out.size⟩)
              clear ho6 ho6' hb6 hc61 hc62 hg6 hbv hgl HMG HLO HLR c7w
              gi_wp2_with (gi_at_builtin; refine wpListIn_append_own_at _ rfl _ _ 97 rfl Bs 90 iR (.slice none 0 0) 1 24 Try.underlying97 hiR hzR hzR1 hzR2 rfl (by decide) _ _ _ rfl (HLO6.out.alloc _) ⟨w6.heap.size, 0, none⟩ 1 1 [.slice (some ⟨g6, 0, none⟩) (n + j) c6] rfl rfl (cells_new1 _ _ _) (by simp [Value.oneCell']) (by unfold maxLen; omega) (by omega) (by have := HBK.out.size; have := HBV.out.size; have := HBS.out; simp; omega) ?_; intro v' w7 hown' hgrow _ hat; obtain ⟨gl', cl', rfl⟩ := ownsRow_succ hown'; have HO7 := Lib.hid hown'; have HG7 := Lib.hid hgrow; have HT7 := Lib.hid (show some gl' = some gl ∨ some gl' = some (w6.alloc (.cells #[.slice (some ⟨g6, 0, none⟩) (n + j) c6] 90)).heap.size from hat); clear hown' hgrow hat)
              gi_roundg (m - k)
              case measure => have := HKG.out; omega
              case rel =>
                have hal : Below w6.heap.size w6 (w6.alloc (.cells #[.slice (some ⟨g6, 0, none⟩) (n + j) c6] 90)) := (Below.refl _ _).alloc (Nat.le_refl _) _
                have hR := (HLR6.out.below hal).app (g := g6) (c := c6) HG7.out HT7.out (by rw [HLE.out.2]; exact HG6.out.1) HG6.out.2.1 (by have := HG6.out.2.2.2; simp; omega) (by have := HG6.out.2.2.1; have := HGL.out; simp; omega) (HI6.out.below hal)
                rw [HLE.out.2] at hR
                refine ⟨k + 1, gl', cl', Lv ++ [.slice (some ⟨g6, 0, none⟩) (n + j) c6], rfl, by omega, by omega, by omega, HO7.out, hR, ?_⟩
                have h1 : Below Bs U w6 := HBK.out.trans (HBV.out.mono (by have := HBK.out.size; have := HBS.out; omega))
                exact (h1.alloc (by have := h1.size; have := HBS.out; omega) _).grown HG7.out (by have := h1.size; have := HBS.out; simp; omega) (fun k e => by cases e; exact (own_base HLO6.out rfl).1)
        · have hltB : decide ((k : Int) < (m : Int)) = false := by simp; omega
          obtain rfl : k = m := by omega
          have hal15 : Below V.heap.size V (V.alloc (.cells #[.slice none 0 0] 46)) := (Below.refl _ _).alloc (Nat.le_refl _) _
          have HX5 := Lib.hid ((HXU.out.below (show Below U.heap.size U V from by rw [HBS.out]; exact HBK.out)).below hal15)
          have cB := HX5.out.at 0 _ rfl
          have hnI : (n : Int) ≤ 12 := by omega
          have hnI2 : (2 : Int) ≤ (n : Int) := by omega
          have hM : 2 * n - 2 ≤ (lvI Aw k).length := by
            have h := HK2.out
            rw [← HAl.out] at h
            obtain ⟨t, rfl⟩ : ∃ t, k = t + 1 := ⟨k - 1, by omega⟩
            have := lvI_has h
            rw [HAl.out] at this
            exact this
          have HMM := Lib.hid hM
          have hMI : 2 * (n : Int) - 2 = ((2 * n - 2 : Nat) : Int) := by omega
          obtain ⟨M, hMe⟩ : ∃ M, 2 * n - 2 = M := ⟨_, rfl⟩
          have HME := Lib.hid hMe
          rw [hMe] at HMM hMI
          clear hal15 c7' hM hMe
          gi_wp2_with fail
          obtain ⟨p15, hp15⟩ : ∃ b, V.heap.size = b := ⟨_, rfl⟩
          have HP15 := Lib.hid hp15
          have hal2 : Below V.heap.size V ((V.alloc (.cells #[.slice none 0 0] 46)).alloc (.cells #[.int .i64 (M : Int)] 3)) := ((Below.refl _ _).alloc (Nat.le_refl _) _).alloc (by simp) _
          have hq15 := (BC.new V V.heap.size #[.slice none 0 0] 46 rfl).alloc (.cells #[.int .i64 (M : Int)] 3)
          have hq16 := BC.new (V.alloc (.cells #[.slice none 0 0] 46)) (V.heap.size + 1) #[.int .i64 (M : Int)] 3 (by simp)
          have hs9 : ((V.alloc (.cells #[.slice none 0 0] 46)).alloc (.cells #[.int .i64 (M : Int)] 3)).heap.size = p15 + 2 := by simp [hp15]
          obtain ⟨X9, hX9⟩ : ∃ X, (V.alloc (.cells #[.slice none 0 0] 46)).alloc (.cells #[.int .i64 (M : Int)] 3) = X := ⟨_, rfl⟩
          rw [hX9] at hal2 hq15 hq16 hs9 ⊢
          rw [hp15] at hq15 hq16 ⊢
          clear hX9 hp15
          refine ⟨trivial, callsIn_wide.2 ?_⟩
          refine (backI_any _ _ _ _).mono ?_
          rintro e wA ⟨rfl, eA⟩
          have halA : Below X9.heap.size X9 wA := by rw [eA]; exact (Below.refl _ _).alloc (Nat.le_refl _) _
          have HBA := Lib.hid (hal2.trans (halA.mono hal2.size))
          have HQ15 := Lib.hid (hq15.below halA)
          have HQ16 := Lib.hid (hq16.below halA)
          have HSA := Lib.hid (show wA.heap.size = p15 + 3 from by rw [eA]; simp [hs9])
          have HRA := Lib.hid (show BwR wA (p15 + 2) gl cl Lv from ⟨by
            have := (BC.new X9 (p15 + 2) #[.slice (some ⟨gl, 0, none⟩) k cl] 97 hs9.symm).at 0 _ rfl
            rw [← eA] at this
            rw [HLR.out.len]; exact this, fun i v hi => ((BC.of_own HLO.out).below (hal2.trans (halA.mono hal2.size))).at i v hi⟩)
          have HLA := Lib.hid (HLR.out.below (hal2.trans (halA.mono hal2.size)))
          have HGLV := Lib.hid (show gl < p15 from by rw [← HP15.out]; exact (own_base HLO.out rfl).2)
          rw [hs9]
          clear eA halA hal2 hq15 hq16 hs9 cB
          obtain ⟨iN, hiN, hzN, hzN1, hzN2⟩ := info_parts infoR2
          gi_wp2_with fail
          refine wpIn_range_own rfl h1n (gf := 110) (lb := #[.pointer (some ⟨p15 + 2, 0, none⟩)]) rfl trivial (enters_of Try.func110 (by kernel_rfl) rfl)
            (encs := fun x : Nat × Value => #[.int .i64 (x.1 : Int), x.2]) (X := fun _ => False) (Kp := KpB (p15 + 2) gl) (Sm := fun xs _ => xs <+: bwL Lv) (S := fun xs _ => xs = bwL Lv)
            ?gives (fun k hk => hk.elim) KpB.trans (fun _ => rfl) ?hKb (fun pre W => TkB wA p15 (p15 + 1) Aw k M pre.length W) ?hI ?hIo (fun _ _ _ _ _ hs _ _ _ => hs) (fun _ _ _ _ _ hs _ _ _ => hs)
            ⟨rfl, rfl, rfl, Nat.le_refl _, fun _ _ _ _ => rfl, ⟨_, [], HQ15.out, own_nil _ _ _ _, Rw2.nil _ _ _⟩, M, HQ16.out, HMM.out, by simp⟩ ?a2 ?assign ?body ?done
          case assign =>
            intro l x W K hK
            have HK := Lib.hid hK
            clear hK
            gi_wp2
            exact HK.out
          case gives =>
            intro l J W1 hb1 hJ hY hJ0
            refine (bwI_in (n0 - 1) (by omega) l (p15 + 2) gl cl Lv (by rw [HLR.out.len]; omega) J hY W1 (HRA.out.below hb1) hJ0).mono ?_
            rintro e W' ⟨hv, xs, hx, hj⟩
            exact ⟨hv, xs, hx, hj⟩
          case hKb =>
            intro W l o o' hl hlo _ _
            exact ⟨by simp, fun k hk => World.putObj_heap_other (by have := HSA.out; have := HGLV.out; omega)⟩
          case hI =>
            rintro pre U V h hUV
            exact h.grown (row := none) (by have := HSA.out; omega) (by have := HSA.out; omega) ⟨hUV.os, hUV.tape, hUV.output, hUV.size, fun k hk _ => hUV.same k hk (fun h => h)⟩ (fun l e => by cases e)
          case hIo =>
            rintro pre U l o o' h hl hlo ho
            exact h.grown (by have := HSA.out; omega) (by have := HSA.out; omega) (grownBy_putObj' U l o') (fun r e => by cases e; exact ⟨hl, o, hlo, ho⟩)
          case body =>
            rintro l pre ⟨xi, xv⟩ W2 hT hs
            obtain ⟨hx1, hx2⟩ := bwL_key hs
            simp only at hx1 hx2
            rw [HLR.out.len] at hx1
            obtain ⟨g, c, rfl, hc1, hc2, hg1, hg2, hIt⟩ := HLR.out.row xi xv hx2
            rw [show xi + 1 = k - pre.length by omega] at hc1 hIt ⊢
            obtain ⟨v, Lr, hv, hr, hrw⟩ := hT.row
            obtain ⟨mj, hq, hmj, htk⟩ := hT.tk
            have hIt2 := hIt.below HBA.out
            have hIt3 : ItS W2 g (lvI Aw (k - pre.length)) := fun m u hm => (World.cell?_of_block (hT.same g (by have := HSA.out; have := HP15.out; omega) (by have := HP15.out; omega) (by have := HP15.out; omega))).trans (hIt2 m u hm)
            have hlvl := lvI_le Aw (k - pre.length)
            rw [HAl.out] at hlvl
            obtain ⟨kj, hkj⟩ : ∃ x, k - pre.length = x := ⟨_, rfl⟩
            have HKJ := Lib.hid (show kj + pre.length = k ∧ 1 ≤ kj from by omega)
            rw [hkj] at hc1 hIt3 hmj htk hlvl ⊢
            obtain ⟨lev, hlev⟩ : ∃ x, lvI Aw kj = x := ⟨_, rfl⟩
            have HLV := Lib.hid hlev
            rw [hlev] at hc1 hIt3 hmj hlvl ⊢
            obtain ⟨nl, hnl⟩ : ∃ x, lev.length = x := ⟨_, rfl⟩
            have HNL := Lib.hid hnl
            rw [hnl] at hc1 hmj hlvl ⊢
            have hmjI : (mj : Int) ≤ (nl : Int) := by omega
            have hmj24 : mj ≤ 24 := by omega
            have hnlc : (nl : Int) ≤ (c : Int) := by omega
            have HV2 := Lib.hid hv
            have HR2 := Lib.hid hr
            have HW2 := Lib.hid hrw
            have HT2 := Lib.hid hT
            have HQ2 := Lib.hid hq
            have HTK := Lib.hid htk
            have HI2 := Lib.hid hIt3
            have cq := hq.at 0 _ rfl
            have hpl : pre.length ≤ 64 := by omega
            clear hs hx1 hx2 hT hc1 hIt hIt2 hIt3 hmj htk hlvl hv hr hrw hq hg1 hg2 hlev hnl hkj
            gi_wp2_with fail
            gi_loopg [19, 98] (mj + 1) (fun gg v19 v98 wr => ∃ i : Nat, v98 = .int .i64 (i : Int) ∧ i ≤ mj ∧ mj - i < gg ∧ v19 = .int .i64 (sgN (lev.take i) : Int) ∧ Below W2.heap.size W2 wr)
            case atStart => exact ⟨0, rfl, Nat.zero_le _, by omega, rfl, Below.refl _ _⟩
            case round =>
              obtain ⟨i, rfl, hi, hig, rfl, hib⟩ := hrel
              clear cq
              have HIG := Lib.hid hig
              have HIB := Lib.hid hib
              clear hig hib
              obtain ⟨sn, hsn⟩ : ∃ x, sgN (lev.take i) = x := ⟨_, rfl⟩
              have HSN := Lib.hid hsn
              rw [hsn]
              have hsn24 : sn ≤ 24 := by
                rw [← hsn]
                have h1 : sgN (lev.take i) ≤ (lev.take i).length := List.countP_le_length
                rw [List.length_take] at h1
                omega
              clear hsn
              by_cases hlt2 : i < mj
              · have hlI : (i : Int) < (mj : Int) := by omega
                obtain ⟨⟨xn, xb⟩, hx⟩ : ∃ x, lev[i]? = some x := ⟨lev[i]'(by have := HNL.out; omega), List.getElem?_eq_getElem _⟩
                obtain ⟨e0, e1, e2⟩ := (HI2.out.below HIB.out).at3 hx
                obtain ⟨o1, ho1⟩ : ∃ o, i * 3 = o := ⟨_, rfl⟩
                rw [ho1] at e0 e1 e2
                have HO1 := Lib.hid ho1
                have bX := (BC.new wr wr.heap.size #[.bool false, .string (mg xn), .bool xb] 95 rfl).at 2 _ rfl
                have HBX := Lib.hid (show Below W2.heap.size W2 (wr.alloc (.cells #[.bool false, .string (mg xn), .bool xb] 95)) from HIB.out.alloc HIB.out.size _)
                have HS2 := Lib.hid (show sgN (lev.take (i + 1)) = sn + if xb then 1 else 0 from by
                  rw [List.take_add_one, hx, ← HSN.out]
                  unfold sgN
                  rw [List.countP_append]
                  cases xb <;> rfl)
                clear hx
                cases xb with
                | true =>
                  gi_wp2_with fail
                  gi_roundg (mj - i)
                  case measure => have := HIG.out; omega
                  case rel => exact ⟨i + 1, by go_num, by omega, by omega, by rw [HS2.out]; simp, HBX.out⟩
                | false =>
                  gi_wp2_with fail
                  gi_roundg (mj - i)
                  case measure => have := HIG.out; omega
                  case rel => exact ⟨i + 1, by go_num, by omega, by omega, by rw [HS2.out]; simp, HBX.out⟩
              · have hB : decide ((i : Int) < (mj : Int)) = false := by simp; omega
                obtain rfl : i = mj := by omega
                have HV3 := Lib.hid (HV2.out.below HIB.out)
                have HQ3 := Lib.hid (HQ2.out.below HIB.out)
                have HR3 := Lib.hid (own_grown HR2.out (gRow HIB.out none) (by simp))
                have HW3 := Lib.hid (HW2.out.grown (gRow HIB.out none) (fun g _ _ => .inl (by simp)))
                have hsz3 : wA.heap.size ≤ wr.heap.size := Nat.le_trans HT2.out.size HIB.out.size
                have hp3 : p15 < wA.heap.size := by have := HSA.out; omega
                obtain ⟨t1, t2, t3, t4⟩ := tk_step HAs.out (j := pre.length) (s := sn) HKJ.out.1 HKJ.out.2 HTK.out (by have h1 := HLV.out; have h2 := HNL.out; rw [h1, h2]; exact Int.ofNat_le.1 hmjI) (by rw [HLV.out]; exact HSN.out)
                have HT := Lib.hid (And.intro t1 (And.intro t2 t3))
                have c15 := HV3.out.at 0 v rfl
                have c16 := HQ3.out.at 0 _ rfl
                obtain ⟨dd, hdd⟩ : ∃ d, i - sn = d := ⟨_, rfl⟩
                have hmsI : (i : Int) - (sn : Int) = (dd : Int) := by omega
                have hd24 : dd ≤ 24 := by omega
                have HDD := Lib.hid hdd
                clear t1 t2 t3 hlt2 hdd
                gi_wp2_with (gi_at_builtin; refine wpListIn_append_own_at _ rfl _ _ 46 rfl wA.heap.size 32 iN (.slice none 0 0) 1 24 Try.underlying46 hiN hzN hzN1 hzN2 rfl (by decide) _ _ _ rfl ((HR3.out.alloc _).alloc _) ⟨wr.heap.size + 1, 0, none⟩ 1 1 [.slice (some ⟨wr.heap.size, 0, none⟩) 2 2] rfl rfl (by have := cells_new1 (wr.alloc (.cells #[.int .i64 (i : Int), .int .i64 (sn : Int)] 3)) (.slice (some ⟨wr.heap.size, 0, none⟩) 2 2) 32; rw [World.size_alloc] at this; exact this) (by simp [Value.oneCell']) (by unfold maxLen; omega) (by omega) (by simp; omega) ?_; intro v' w5 hown' hgrow _ hat; obtain ⟨g', cap', rfl⟩ := ownsRow_succ hown'; have hd := app_step (HV3.out.alloc (.cells #[.int .i64 (i : Int), .int .i64 (sn : Int)] 3)) (HR3.out.alloc (.cells #[.int .i64 (i : Int), .int .i64 (sn : Int)] 3)) (by simp; omega) hp3 hown' hgrow hat; have hp := app_pre (HV3.out.alloc (.cells #[.int .i64 (i : Int), .int .i64 (sn : Int)] 3)) (HR3.out.alloc (.cells #[.int .i64 (i : Int), .int .i64 (sn : Int)] 3)) hp3 hgrow; have c5 := hp.at 0 v rfl; have f5 := hp.z 0 (show 0 < 1 by decide); have hq5 := (HQ3.out.alloc (.cells #[.int .i64 (i : Int), .int .i64 (sn : Int)] 3)).heap (hd.same (p15 + 1) (by have := HSA.out; omega) (by omega)) hd.kp.size; have c6 := hq5.at 0 _ rfl; have f6 := hq5.z 0 (show 0 < 1 by decide); have HD := Lib.hid hd; have HQ5 := Lib.hid hq5; have HG5 := Lib.hid hgrow; have HA5 := Lib.hid hat; clear hown' hgrow hat hp hd hq5)
                have hms2 : 2 * (dd : Int) = ((2 * dd : Nat) : Int) := by omega
                rw [hms2]
                have hd := HD.out
                have hdw : Below W2.heap.size W2 (wr.alloc (.cells #[.int .i64 (i : Int), .int .i64 (sn : Int)] 3)) := HIB.out.alloc HIB.out.size _
                have hne15 : p15 ≠ p15 + 1 := by omega
                have stp : ∀ b, b < wA.heap.size → b ≠ p15 → b ≠ p15 + 1 → ((w5.setCell ⟨p15, 0, none⟩ (.slice (some ⟨g', 0, none⟩) (pre.length + 1) cap')).setCell ⟨p15 + 1, 0, none⟩ (.int .i64 ((2 * dd : Nat) : Int))).heap[b]? = W2.heap[b]? := fun b hb h1 h2 =>
                  (Below.heap_setCell _ _ _ _ h2).trans ((hd.same b hb h1).trans (hdw.block b (Nat.lt_of_lt_of_le hb HT2.out.size)))
                have hszW : W2.heap.size ≤ ((w5.setCell ⟨p15, 0, none⟩ (.slice (some ⟨g', 0, none⟩) (pre.length + 1) cap')).setCell ⟨p15 + 1, 0, none⟩ (.int .i64 ((2 * dd : Nat) : Int))).heap.size := by
                  have h1 := hdw.size
                  have h2 := hd.kp.size
                  simp only [World.size_setCell] at h2 ⊢
                  omega
                refine ⟨?_, ⟨hszW, fun b hb => ?_⟩, ?_⟩
                · refine (KeepsFrom.trans (Y := wr.alloc (.cells #[.int .i64 (i : Int), .int .i64 (sn : Int)] 3)) ⟨hdw.size, fun k o _ ho _ => (hdw.block k (Array.getElem?_eq_some_iff.1 ho).1).trans ho⟩ (hd.keeps _)).trans ((KeepsOthers.setCell _ _ _).from _)
                · rcases hb with rfl | rfl
                  · exact stp _ (by have := HSA.out; omega) (by omega) (by omega)
                  · exact stp _ (by have := HSA.out; have := HGLV.out; omega) (by have := HGLV.out; omega) (by have := HGLV.out; omega)
                · have hal1 : wr.grownBy (wr.alloc (.cells #[.int .i64 (i : Int), .int .i64 (sn : Int)] 3)) none := World.grownBy_alloc wr _ none
                  have hal2 : (wr.alloc (.cells #[.int .i64 (i : Int), .int .i64 (sn : Int)] 3)).grownBy ((wr.alloc (.cells #[.int .i64 (i : Int), .int .i64 (sn : Int)] 3)).alloc (.cells #[.slice (some ⟨wr.heap.size, 0, none⟩) 2 2] 32)) none := World.grownBy_alloc _ _ none
                  have hbn := (BC.new wr wr.heap.size #[.int .i64 (i : Int), .int .i64 (sn : Int)] 3 rfl).alloc (.cells #[.slice (some ⟨wr.heap.size, 0, none⟩) 2 2] 32)
                  have hrw9 := ((HW3.out.grown hal1 (fun g _ _ => .inl (by simp))).grown hal2 (fun g _ _ => .inl (by simp))).app (g := wr.heap.size) (t := i) (s := sn) HG5.out (by have := HA5.out; exact this) hsz3 (by simp; omega) (fun e => by have := (own_base HR3.out e).2; omega) (hbn.at 0 _ rfl) (hbn.at 1 _ rfl)
                  refine ⟨hd.os.trans (hdw.os.trans HT2.out.os), hd.tape.trans (hdw.tape.trans HT2.out.tape), hd.output.trans (hdw.output.trans HT2.out.output), Nat.le_trans HT2.out.size hszW, fun b hb h1 h2 => (stp b hb h1 h2).trans (HT2.out.same b hb h1 h2), ⟨_, Lr ++ [.slice (some ⟨wr.heap.size, 0, none⟩) 2 2], hd.box.other _ _ hne15, ?_, ?_⟩, 2 * dd, HQ5.out.set 0 _ (by simp), ?_, ?_⟩
                  · exact ownsRow_keep hd.row fun b o hb ho _ => (Below.heap_setCell _ _ _ _ (by have := HSA.out; show b ≠ p15 + 1; omega)).trans ho
                  · rw [HT.out.1]
                    exact (hrw9.set hp3).set (by have := HSA.out; omega)
                  · rw [← HDD.out]; exact HT.out.2.2
                  · rw [← HDD.out]; exact HT.out.2.1
          case done =>
            rintro D2 xs W2 hD2 hxs hT hK2
            have hxl : xs.length = k := by rw [hxs, bwL_len, HLR.out.len]
            rw [hxl] at hT
            obtain ⟨v, Lr, hv, hr, hrw⟩ := hT.row
            rw [List.take_of_length_le (by rw [tkI_len]; exact Nat.le_refl _)] at hrw
            obtain ⟨g, c, rfl, hc1, hc2, hg, ho⟩ := OwnAt.of hr hk1 (by rw [hrw.len, tkI_len, Nat.mul_one])
            have c15 := hv.at 0 _ rfl
            have hD1 : D1 < Bs := by rw [← HBS.out]; exact (Array.getElem?_eq_some_iff.1 HDU.out).1
            have hBV : Bs ≤ p15 := by have := HBK.out.size; have := HBS.out; have := HP15.out; omega
            have hK1 : W2.heap[D1]? = some (.deferred (some [])) := (hT.same D1 (by have := HSA.out; omega) (by omega) (by omega)).trans ((HBA.out.block D1 (by have := HP15.out; omega)).trans ((HBK.out.block D1 hD1).trans HDU.out))
            have hwU := HBU.out.size
            have hb1 : Below w.heap.size w V := HBU.out.trans (HBK.out.mono (by have := HBS.out; omega))
            have hb2 : Below w.heap.size w wA := hb1.trans (HBA.out.mono hb1.size)
            have hb3 : Below w.heap.size w W2 := ⟨hT.os.trans hb2.os, hT.tape.trans hb2.tape, hT.output.trans hb2.output, Nat.le_trans hb2.size hT.size, fun b hb => (hT.same b (by have := hb2.size; omega) (by have := HBS.out; omega) (by have := HBS.out; omega)).trans (hb2.block b hb)⟩
            have HBF := Lib.hid hb3
            have HRF := Lib.hid hrw
            have HOF := Lib.hid ho
            have HCF := Lib.hid (And.intro hc1 hc2)
            have HK2D := Lib.hid hK2
            have HK1D := Lib.hid hK1
            have HDD := Lib.hid (show D1 < Bs ∧ w.heap.size ≤ D1 ∧ Bs ≤ p15 ∧ p15 + 3 ≤ D2 ∧ w.heap.size ≤ D2 from ⟨hD1, by
              have h1 := HLT.out
              have h2 := HP7.out
              have h3 := HG3.out
              have h4 := HS3.out
              have h5 := HDLE.out
              omega, hBV, by have := HSA.out; omega, by have := HSA.out; have := HBS.out; omega⟩)
            clear hxs hT hv hr hrw ho hc1 hc2 hg hD1 hBV hK1 hwU hb1 hb2 hb3 hxl
            gi_wp2_with fail
            have hK1' : (W2.putObj D2 (.deferred none)).heap[D1]? = some (.deferred (some [])) := (World.putObj_heap_other (by have := HDD.out; omega)).trans HK1D.out
            refine ⟨by simp, .inl ⟨_, _, rfl, run_takeDeferred hK2, by simp, .inl ⟨_, _, rfl, run_takeDeferred hK1', ?_⟩⟩⟩
            have kept : ∀ {p : Addr} {u : Value}, W2.cell? p = some u → ((W2.putObj D2 (.deferred none)).putObj D1 (.deferred none)).cell? p = some u := fun hc => cell_kept (cell_kept hc (grownBy_putObj' _ D2 (.deferred none)) (fun r e => by cases e; exact ⟨_, HK2D.out, rfl⟩)) (grownBy_putObj' _ D1 (.deferred none)) (fun r e => by cases e; exact ⟨_, hK1', rfl⟩)
            have c9 := kept c15
            refine ⟨.tuple #[.slice (some ⟨g, 0, none⟩) k c, .int .i64 0], ?_, ?_⟩
            · simp [results, Try.f27, go_sem, c15, c9]
            · unfold PkP
              refine ⟨fun h => absurd HL0.out h, fun _ => ⟨Ws, g, c, rfl, by rw [Int.toNat_natCast], by rw [Int.toNat_natCast]; exact HCF.out.1, HCF.out.2, ?_⟩, ?_⟩
              · rw [Int.toNat_natCast, HAW.out, HNN.out, HME.out]
                intro j t s hj
                obtain ⟨gj, a1, a2, a3, a4, a5, a6⟩ := HRF.out.row j t s hj
                exact ⟨gj, kept (HOF.out.at a1), kept a5, kept a6⟩
              · exact belowP (belowP HBF.out (by have := HDD.out; omega)) (by have := HDD.out; omega)
theorem Packages_any (cap : Nat) (a : Option Addr) (L : List (Bool × ByteArray)) (m : Int) (hc : L.length ≤ cap) (hcm : cap ≤ maxLen) (h12 : L.length ≤ 12 ∨ 64 < L.length) (hz : ∀ x ∈ L, x.2.size ≤ 8) (hm : (Lit.int .i64 m).wf = true) (w : World) (hSl : Sl w a L) :
    Calls Try.prog 27 #[.slice a L.length cap, .int .i64 m] w (PkP L m w) := callsIn_wide.1 (Packages_in 3 (Nat.le_refl _) cap a L m hc hcm h12 hz hm w hSl)
end Go.Proofs.Gv
