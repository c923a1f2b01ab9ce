import Derived.Test.YtfhncfphphieiaaGreatQro
import Derived.Test.YtfhncfphphieiaaGreatQrm
set_option maxHeartbeats 16000000
set_option maxRecDepth 100000
set_option linter.unusedSimpArgs false
set_option linter.unusedVariables false
namespace Go.Proofs.Gv
open Go Go.RowKit Go.ChangeShapes Go.WideShapes Go.Deep
def NSq (W : World) (a : Option Addr) (xs : List Int) : Prop := ∀ (i : Nat) (x : Int), xs[i]? = some x → ∃ G, a = some G ∧ W.cell? (G.add i) = some (.int .i64 x)
theorem NSq.below {W W' : World} {a : Option Addr} {xs : List Int} (h : NSq W a xs) (hb : Below W.heap.size W W') : NSq W' a xs := fun i x hi => by
 obtain ⟨G, rfl, c⟩ := h i x hi
 exact ⟨G, rfl, (hb.cell (World.block_lt_of_cell? _ _ c)).trans c⟩
theorem NSq.rowO {W : World} {a : Option Addr} {xs : List Int} (h : NSq W a xs) (c : Nat) : RowO W (.slice a xs.length c) (intsV xs) := by
 refine ⟨a, c, by rw [intsV_len], fun i x hi => ?_⟩
 unfold intsV at hi
 rw [List.getElem?_map] at hi
 cases hx : xs[i]? with
 | none => rw [hx] at hi; cases hi
 | some y =>
   rw [hx] at hi
   cases hi
   exact h i y hx
theorem cellsNQ : Tryz.prog.cellsOf 3 = 1 := by kernel_rfl
theorem open_NumsQ {H : Type} {enc : TypeId × Value → H} {W : World} {r : Reach} {b0 : Nat} {v : Value} {d : DataW H} {p : List MemPlace} (hval : Value.okWide Tryz.prog W r b0 23 v)
  (h : DataW.Trod enc Tryz.prog W 0 (fun _ => true) true 23 v d p) :
  ∃ (a : Option Addr) (L : List Int) (cap : Nat), v = .slice a L.length cap ∧ L.length ≤ cap ∧ cap ≤ maxLen ∧ (∀ x ∈ L, (Lit.int .i64 x).wf = true) ∧ NSq W a L ∧ (a = none → L = [] ∧ cap = 0) := by
 obtain ⟨a, len, cap, rfl⟩ := okWide_slice Tryz.underlying23 hval
 obtain ⟨fuel, hf⟩ := h
 rcases open_slice Tryz.underlying23 hf with ⟨hcs, -⟩ | ⟨A, len', cap', m, n, D, Pl, hcs, -, hl, hm, hmm, -, hi⟩
 ·simp [Value.cells] at hcs
  obtain ⟨rfl, rfl, rfl⟩ := hcs
  exact ⟨none, [], 0, rfl, Nat.le_refl _, Nat.zero_le _, fun x hx => (by cases hx), fun i x hi => (by simp at hi), fun _ => ⟨rfl, rfl⟩⟩
 ·simp [Value.cells] at hcs
  obtain ⟨rfl, rfl, rfl⟩ := hcs
  simp only [if_true] at hmm
  have key : ∀ i, i < len → ∃ x : Int, W.cell? (A.add i) = some (.int .i64 x) ∧ (Lit.int .i64 x).wf = true := fun i hil => by
   obtain ⟨cs', hc, t0⟩ := hi i (by omega)
   obtain ⟨n0, e0, -, w0⟩ := DataW.trod_int Tryz.underlying3 t0
   subst e0
   rw [cellsNQ] at hc
   obtain ⟨_, hcl, hat⟩ := World.cells?_some hc
   have h0 := hat 0 (by decide)
   refine ⟨n0, ?_, w0⟩
   rw [Nat.mul_one] at h0
   simpa [Addr.add] using h0
  obtain ⟨L, hL, hR⟩ := list_of key
  refine ⟨some A, L, cap, by rw [hL], by omega, by omega, fun x hx => ?_, fun i x hi => ⟨A, rfl, (hR i x hi).1⟩, fun e => (by cases e)⟩
  obtain ⟨i, hi⟩ := List.getElem?_of_mem hx
  exact (hR i x hi).2
end Go.Proofs.Gv
namespace Go.Proofs.Gv
open Go Go.RowKit Go.Maps
def LnVQ (q : Int) (L : List (Bool × ByteArray)) (v : Value) (W : World) : Prop :=
 (lenW q L ≠ 0 ∧ ∃ a c, v = .slice a 0 c) ∨ (lenW q L = 0 ∧ ∃ (n : Nat) (Ws : List Nat) (g c : Nat), q = n ∧ L = VL Ws ∧ Ws.length ≤ 64 ∧ v = .slice (some ⟨g, 0, none⟩) Ws.length c ∧ RC W g (natV (lenH n Ws)))
theorem LnVQ.below {q : Int} {L : List (Bool × ByteArray)} {v : Value} {W W' : World} (h : LnVQ q L v W) (hb : Below W.heap.size W W') : LnVQ q L v W' := by
 rcases h with h | ⟨h0, n, Ws, g, c, h1, h2, h5, h3, h4⟩
 ·exact .inl h
 ·exact .inr ⟨h0, n, Ws, g, c, h1, h2, h5, h3, h4.below hb⟩
theorem lens_nat {q : Nat} {Ws : List Nat} {W : World} {g : Nat} (h : RC W g (natV (lenH q Ws))) : ∀ j, j < Ws.length → W.cell? ⟨g, 0 + j, none⟩ = some (.int .i64 (((lenH q Ws).map fun (k : Nat) => (k : Int)).getD j 0)) := fun j hj => by
 rw [Nat.zero_add]
 have hjl : j < (lenH q Ws).length := by rw [lenH_len]; exact hj
 rw [h.at j (.int .i64 ((lenH q Ws)[j] : Nat)) (by unfold natV; rw [List.getElem?_map, List.getElem?_eq_getElem hjl]; rfl), List.getD_eq_getElem?_getD, List.getElem?_map, List.getElem?_eq_getElem hjl]
 rfl
theorem eqLnQ {q : Int} {L : List (Bool × ByteArray)} {u v : Value} {W : World} (hu : LnVQ q L u W) (hv : LnVQ q L v W) :
  Calls Tryz.prog 16 #[u, v] W fun e w' => e = .returned (.bool true) ∧ Below W.heap.size W w' := by
 rcases hu with ⟨h0, a, c, rfl⟩ | ⟨h0, n, Ws, g, c, rfl, rfl, h64, rfl, hg⟩
 ·rcases hv with ⟨-, b, d, rfl⟩ | ⟨h, -⟩
  ·exact (Tryz.slices_Equal_int_empty a b c 0 d W (by decide)).mono fun e w' h => ⟨by rw [h.1]; rfl, by rw [h.2]; exact Below.refl _ _⟩
  ·exact absurd h h0
 ·rcases hv with ⟨h, -⟩ | ⟨-, m, Us, p, d, e1, e2, -, rfl, hp⟩
  ·exact absurd h0 h
  ·obtain rfl := VL_inj e2
   obtain rfl : n = m := by omega
   refine (Tryz.slices_Equal_int g 0 Ws.length c p 0 Ws.length d ((lenH n Ws).map fun (k : Nat) => (k : Int)) ((lenH n Ws).map fun (k : Nat) => (k : Int)) W (by rw [List.length_map, lenH_len]; exact Nat.le_refl _) (by rw [List.length_map, lenH_len]; exact Nat.le_refl _) (by omega) (by omega) (fun j hj => lens_nat hg j (by rw [List.length_map, lenH_len] at hj; exact hj)) (fun j hj => lens_nat hp j (by rw [List.length_map, lenH_len] at hj; exact hj))).mono ?_
   rintro e w' ⟨rfl, q, rfl⟩
   exact ⟨by simp, ⟨rfl, rfl, rfl, Nat.le_refl _, fun _ _ => rfl⟩⟩
theorem code_cell {l : List ByteArray} {W : World} {g n : Nat} (hn : l.length = n) (h : RC W g (stQ l)) : ∀ j, j < l.length → W.cell? ⟨g, 0 + j, none⟩ = some (.string (l.getD j ByteArray.empty)) := fun j hj => by
 rw [Nat.zero_add]
 rw [h.at j (.string l[j]) (by unfold stQ; rw [List.getElem?_map, List.getElem?_eq_getElem hj]; rfl), List.getD_eq_getElem?_getD, List.getElem?_eq_getElem hj]
 rfl
theorem eqCoQ {q : Int} {L : List (Bool × ByteArray)} {u v : Value} {W : World} (hL : L.length ≤ 1000) (hu : CoV q L u W) (hv : CoV q L v W) :
  Calls Tryz.prog 17 #[u, v] W fun e w' => e = .returned (.bool true) ∧ Below W.heap.size W w' := by
 rcases hu with ⟨h0, a, c, rfl⟩ | ⟨h0, n, Ws, g, c, rfl, rfl, rfl, hg⟩
 ·rcases hv with ⟨-, b, d, rfl⟩ | ⟨h, -⟩
  ·exact (Tryz.slices_Equal_string_empty a b c 0 d W (by decide)).mono fun e w' h => ⟨by rw [h.1]; rfl, by rw [h.2]; exact Below.refl _ _⟩
  ·exact absurd h h0
 ·rcases hv with ⟨h, -⟩ | ⟨-, m, Us, p, d, e1, e2, rfl, hp⟩
  ·exact absurd h0 h
  ·obtain rfl := VL_inj e2
   obtain rfl : n = m := by omega
   rw [VL_len] at hL
   have hl : (codeL n (lenH n Ws)).length = Ws.length := by rw [codeL_len, lenH_len]
   refine (Tryz.slices_Equal_string g 0 Ws.length c p 0 Ws.length d (codeL n (lenH n Ws)) (codeL n (lenH n Ws)) W (by rw [hl]; exact Nat.le_refl _) (by rw [hl]; exact Nat.le_refl _) (by omega) (by omega) (code_cell hl hg) (code_cell hl hp)).mono ?_
   rintro e w' ⟨rfl, q, rfl⟩
   exact ⟨by simp, ⟨rfl, rfl, rfl, Nat.le_refl _, fun _ _ => rfl⟩⟩
noncomputable def mgQ (L : List (Bool × ByteArray)) : List (Int × Int) := if chkW L = 0 then pairsOf (mergesH 2 (wtsOf L)) else []
theorem mgQ_len (L : List (Bool × ByteArray)) : (mgQ L).length ≤ 1000 := by
 unfold mgQ
 split
 ·rename_i h
  obtain ⟨h2, h64, Ws, rfl⟩ := chkW_ok h
  rw [List.length_map] at h2 h64
  rw [show wtsOf (List.map (fun z => (false, mg z)) Ws) = Ws from wtsOf_VL Ws]
  have h6 := (lenH_spec (q := 2) (Nat.le_refl 2) (W := Ws) (by omega)).2.2.2.2.2
  rw [startL_len] at h6
  have hp := padT_lt (q := 2) (n := Ws.length) (Nat.le_refl 2)
  unfold pairsOf
  rw [List.length_map]
  omega
 ·simp
theorem mrg_nilQ (W : World) (a : Option Addr) (c : Nat) : MrgAt W (.slice a 0 c) [] := ⟨a, c, rfl, fun i x h => by simp [mrgV] at h⟩
noncomputable def czQ (L : List (Bool × ByteArray)) (xs : List Int) : Nat := if costE L xs = 0 then csum (wtsOf L) (natsOf xs) else 0
theorem grS_falseQ {L : List (Bool × ByteArray)} (h : grS L = false) : (∀ x ∈ L, x.2.size ≤ 8) ∧ (L.length ≤ 12 ∨ 64 < L.length) ∧ L.length ≤ 67 := by
 unfold grS at h
 simp only [Bool.or_eq_false_iff, Bool.and_eq_false_iff, decide_eq_false_iff_not] at h
 obtain ⟨h1, h2, h3⟩ := h
 refine ⟨fun x hx => ?_, by omega, by omega⟩
 unfold grB at h1
 rw [List.any_eq_false] at h1
 have := h1 x hx
 simpa using this
theorem law_lengths (w : World) (q : Int) (wq : (Lit.int .i64 q).wf = true) (a : Option Addr) (cap : Nat) (L : List (Bool × ByteArray)) (hL : L.length ≤ maxLen) (hz : ∀ x ∈ L, x.2.size ≤ maxLen) (hS : Sl w a L) (ha : a = none → L = [] ∧ cap = 0) (hc : L.length ≤ cap ∧ cap ≤ maxLen)
  (a3 : Option Addr) (c3 : Nat) (xs : List Int) (hl3 : xs.length ≤ c3) (hm3 : c3 ≤ maxLen) (hz3 : ∀ x ∈ xs, (Lit.int .i64 x).wf = true) (hs3 : NSq w a3 xs) (hn3 : a3 = none → xs = [] ∧ c3 = 0) :
  Calls Tryz.prog 3 #[.int .i64 q, .slice a L.length cap, .slice a3 xs.length c3] w fun e w' => e = .returned (.bool true) ∧ Below w.heap.size w w' := by
 have HG := Lib.hid (greatS_any a cap L w hL hz hS)
 have HAW := Lib.hid (fun W => awake_any W)
 have hx3 : xs.length ≤ maxLen := Nat.le_trans hl3 hm3
 by_cases hg : grS L = true
 ·rw [hg] at HG
  obtain ⟨n1, hn1⟩ : ∃ n, L.length = n := ⟨_, rfl⟩
  obtain ⟨n3, hn3'⟩ : ∃ n, xs.length = n := ⟨_, rfl⟩
  rw [hn1] at HG ⊢
  rw [hn3']
  clear hg hL hz hS ha hc wq hl3 hm3 hz3 hs3 hn3 hx3 hn1 hn3'
  go_enter Tryz.func3, Tryz.ntmps3
  go_wp2_with fail
  refine HG.out.mono ?_
  rintro e w1 ⟨rfl, rfl⟩
  go_wp2_with fail
  refine (HAW.out _).mono ?_
  rintro e w9 ⟨rfl, hb2⟩
  go_wp2
  go_ret
  exact ⟨rfl, hb2⟩
 have hg0 : grS L = false := by simpa using hg
 rw [hg0] at HG
 by_cases h10 : 10 < xs.length
 ·obtain ⟨n1, hn1⟩ : ∃ n, L.length = n := ⟨_, rfl⟩
  obtain ⟨n3, hn3'⟩ : ∃ n, xs.length = n := ⟨_, rfl⟩
  unfold maxLen at hx3
  rw [hn3'] at h10 hx3
  rw [hn1] at HG ⊢
  rw [hn3']
  have hI : (10 : Int) < (n3 : Int) := by omega
  clear hg hg0 hL hz hS ha hc wq hl3 hm3 hz3 hs3 hn3 hn1 hn3' h10
  go_enter Tryz.func3, Tryz.ntmps3
  go_wp2_with fail
  refine HG.out.mono ?_
  rintro e w1 ⟨rfl, rfl⟩
  go_wp2_with fail
  refine (HAW.out _).mono ?_
  rintro e w9 ⟨rfl, hb2⟩
  go_wp2
  go_ret
  exact ⟨rfl, hb2⟩
 obtain ⟨hz8, h12, h67⟩ := grS_falseQ hg0
 have hz5 : ∀ x ∈ L, x.2.size ≤ 100000 := fun x hx => Nat.le_trans (hz8 x hx) (by decide)
 have H1 := Lib.hid (fun W (hb : Below w.heap.size w W) => (Lengths_any q cap a L hL hz5 W (hS.below hb)).mono (fun e w' h => show ∃ v, e = .returned (.tuple #[v, .int .i64 (lenW q L)]) ∧ LnVQ q L v w' ∧ Below W.heap.size W w' from by
  obtain ⟨v, e1, h2, h3, h4⟩ := h
  refine ⟨v, e1, ?_, h4⟩
  by_cases h0 : lenW q L = 0
  ·obtain ⟨n, Ws, rfl, rfl, -, -, -, h64, hnm⟩ := h3 h0
   obtain ⟨g, c, e2, hrc⟩ := hnm.rc
   rw [lenH_len] at e2
   exact .inr ⟨h0, n, Ws, g, c, rfl, rfl, h64, e2, hrc⟩
  ·exact .inl ⟨h0, none, 0, h2 h0⟩))
 have H2 := Lib.hid (fun W (hb : Below w.heap.size w W) => (rLen_any cap a L q wq hL h12 hz8 W (hS.below hb)).mono (fun e w' h => show ∃ v, e = .returned (.tuple #[v, .int .i64 (lenW q L)]) ∧ LnVQ q L v w' ∧ Below W.heap.size W w' from by
  unfold RLn at h
  obtain ⟨h2, h3, h4⟩ := h
  rw [lenW_rln]
  by_cases h0 : rlnE q L = 0
  ·obtain ⟨n, rfl, -⟩ := rln_ok h0
   obtain ⟨Ws, g, c, rfl, e2, hbc, -, -⟩ := h3 h0
   have hh := rln_ok h0
   obtain ⟨-, -, -, -, -, h64⟩ := hh
   rw [VL_len] at h64
   rw [Int.toNat_natCast] at hbc
   exact ⟨_, by rw [h0]; exact e2, .inr ⟨h0, n, Ws, g, c, rfl, rfl, h64, rfl, RC.of hbc⟩, h4⟩
  ·obtain ⟨b, e2⟩ := h2 h0
   exact ⟨_, e2, .inl ⟨h0, _, _, rfl⟩, h4⟩))
 have H3 := Lib.hid (fun W (hb : Below w.heap.size w W) => Code38_any q cap a L hL h12 hz5 W (hS.below hb))
 have H4 := Lib.hid (fun W (hb : Below w.heap.size w W) => rCode38_any q cap a L wq hL h12 hz8 W (hS.below hb))
 unfold CoP at H3 H4
 have H5 := Lib.hid (fun W (hb : Below w.heap.size w W) => (Merges_any cap a L hL hz5 W (hS.below hb)).mono (fun e w' h => show ∃ v, e = .returned (.tuple #[v, .int .i64 (chkW L)]) ∧ MrgAt w' v (mgQ L) ∧ Below W.heap.size W w' from by
  obtain ⟨⟨v, e1, h2, h3⟩, h4⟩ := h
  refine ⟨v, e1, ?_, h4⟩
  unfold mgQ
  by_cases h0 : chkW L = 0
  ·obtain ⟨Ws, rfl, -, -, hm⟩ := h3 h0
   rw [if_pos h0, wtsOf_VL]
   exact hm
  ·rw [if_neg h0, h2 h0]
   exact mrg_nilQ _ _ _))
 have H6 := Lib.hid (fun W (hb : Below w.heap.size w W) => (rMerges_any cap a L hL h12 hz8 W (hS.below hb)).mono (fun e w' h => show ∃ v, e = .returned (.tuple #[v, .int .i64 (chkW L)]) ∧ MrgAt w' v (mgQ L) ∧ Below W.heap.size W w' from by
  obtain ⟨⟨v, e1, h2, h3⟩, h4⟩ := h
  refine ⟨v, e1, ?_, h4⟩
  unfold mgQ
  by_cases h0 : chkW L = 0
  ·obtain ⟨Ws, rfl, hm⟩ := h3 h0
   rw [if_pos h0, wtsOf_VL]
   exact hm
  ·obtain ⟨b, e2⟩ := h2 h0
   rw [if_neg h0, e2]
   exact mrg_nilQ _ _ _))
 have H7 := Lib.hid (fun W (hb : Below w.heap.size w W) => (CostO_any cap a L (.slice a3 xs.length c3) xs hL hx3 hz5 W (hS.below hb) ((hs3.below hb).rowO c3)).mono (fun e w' h => show e = .returned (.tuple #[VN (czQ L xs), .int .i64 (costE L xs)]) ∧ Below W.heap.size W w' from by
  obtain ⟨⟨z, e1, h2, h3⟩, h4⟩ := h
  refine ⟨?_, h4⟩
  rw [e1]
  unfold czQ
  by_cases h0 : costE L xs = 0
  ·obtain ⟨Ws, ds, rfl, rfl, -, -, -, -, rfl⟩ := h3 h0
   rw [if_pos h0, wtsOf_VL, natsOf_cast]
  ·rw [if_neg h0, h2 h0]))
 have H8 := Lib.hid (fun W (hb : Below w.heap.size w W) => (rCost38O_any cap a L (.slice a3 xs.length c3) xs hL hx3 (fun x hx => Nat.le_trans (hz8 x hx) (by decide)) W (hS.below hb) ((hs3.below hb).rowO c3)).mono (fun e w' h => show e = .returned (.tuple #[VN (czQ L xs), .int .i64 (costE L xs)]) ∧ Below W.heap.size W w' from by
  obtain ⟨⟨z, e1, h2, h3⟩, h4⟩ := h
  refine ⟨?_, h4⟩
  rw [e1]
  unfold czQ
  by_cases h0 : costE L xs = 0
  ·obtain ⟨Ws, ds, rfl, rfl, -, rfl⟩ := h3 h0
   rw [if_pos h0, wtsOf_VL, natsOf_cast]
  ·rw [if_neg h0, h2 h0]))
 have H9 := Lib.hid (fun W (hb : Below w.heap.size w W) => OptimalO_any cap a L (.slice a3 xs.length c3) xs hL hx3 hz8 W (hS.below hb) ((hs3.below hb).rowO c3))
 have HA := Lib.hid (fun W (hb : Below w.heap.size w W) => rOptimal_any cap a L (.slice a3 xs.length c3) xs hL h12 hx3 hz8 W (hS.below hb) ((hs3.below hb).rowO c3))
 have HQ1 := Lib.hid (fun (u v : Value) (W : World) (hu : LnVQ q L u W) (hv : LnVQ q L v W) => eqLnQ hu hv)
 have HQ2 := Lib.hid (fun (u v : Value) (W : World) (hu : CoV q L u W) (hv : CoV q L v W) => eqCoQ (by omega) hu hv)
 have HQ3 := Lib.hid (fun (u v : Value) (W : World) (hu : MrgAt W u (mgQ L)) (hv : MrgAt W v (mgQ L)) => show Calls Tryz.prog 18 #[u, v] W fun e w' => e = .returned (.bool true) ∧ Below W.heap.size W w' from by
  have h := eqMrg_any u v (mgQ L) (mgQ L) (Nat.le_trans (mgQ_len L) (by decide)) (Nat.le_trans (mgQ_len L) (by decide)) W hu hv
  rwa [decide_eq_true rfl] at h)
 unfold VN at H7 H8
 obtain ⟨cs, hcs⟩ : ∃ x, mg (czQ L xs) = x := ⟨_, rfl⟩
 obtain ⟨E1, hE1⟩ : ∃ x, lenW q L = x := ⟨_, rfl⟩
 obtain ⟨E2, hE2⟩ : ∃ x, chkW L = x := ⟨_, rfl⟩
 obtain ⟨E3, hE3⟩ : ∃ x, costE L xs = x := ⟨_, rfl⟩
 obtain ⟨ob, hob⟩ : ∃ x, optV L xs = x := ⟨_, rfl⟩
 rw [hcs, hE3] at H7 H8
 rw [hE1] at H1 H2 H3 H4
 rw [hE2] at H5 H6
 rw [hob, hE3] at H9 HA
 obtain ⟨n1, hn1⟩ : ∃ n, L.length = n := ⟨_, rfl⟩
 obtain ⟨n3, hn3'⟩ : ∃ n, xs.length = n := ⟨_, rfl⟩
 rw [hn1] at HG H1 H2 H3 H4 H5 H6
 rw [hn1, hn3'] at H7 H8 H9 HA ⊢
 rw [hn3'] at h10
 have hIB : decide ((10 : Int) < (n3 : Int)) = false := by simp; omega
 have hEE1 : (E1 == E1) = true := by simp
 have hEE2 : (E2 == E2) = true := by simp
 have hEE3 : (E3 == E3) = true := by simp
 have hbb : (ob == ob) = true := by simp
 have heq1 : eqI false cs false cs = true := eqI_iff.2 ⟨rfl, rfl⟩
 clear hg hg0 hL hz hS ha hc wq hl3 hm3 hz3 hs3 hn3 hx3 hn1 hn3' h10 hz8 hz5 h12 h67 hcs hE1 hE2 hE3 hob
 go_enter Tryz.func3, Tryz.ntmps3
 go_wp2_with fail
 refine HG.out.mono ?_
 rintro e w1 ⟨rfl, rfl⟩
 clear HG
 go_wp2_with fail
 refine (H1.out _ (Below.refl _ _)).mono ?_
 rintro e w2 ⟨v1, rfl, hv1, hb⟩
 have HB2 := Lib.hid hb
 have V1 := Lib.hid hv1
 clear hb hv1 H1
 go_wp2_with fail
 refine (H2.out _ HB2.out).mono ?_
 rintro e w3 ⟨v2, rfl, hv2, hb⟩
 have HB3 := Lib.hid (bstep HB2.out hb)
 have V13 := Lib.hid (V1.out.below hb)
 have V2 := Lib.hid hv2
 clear hb hv2 H2 HB2 V1
 go_wp2_with fail
 refine (H3.out _ HB3.out).mono ?_
 rintro e w4 ⟨v3, rfl, hv3, hb⟩
 have HB4 := Lib.hid (bstep HB3.out hb)
 have V14 := Lib.hid (V13.out.below hb)
 have V24 := Lib.hid (V2.out.below hb)
 have V3 := Lib.hid hv3
 clear hb hv3 H3 HB3 V13 V2
 go_wp2_with fail
 refine (H4.out _ HB4.out).mono ?_
 rintro e w5 ⟨v4, rfl, hv4, hb⟩
 have HB5 := Lib.hid (bstep HB4.out hb)
 have V15 := Lib.hid (V14.out.below hb)
 have V25 := Lib.hid (V24.out.below hb)
 have V35 := Lib.hid (V3.out.below hb)
 have V4 := Lib.hid hv4
 clear hb hv4 H4 HB4 V14 V24 V3
 go_wp2_with fail
 refine (H5.out _ HB5.out).mono ?_
 rintro e w6 ⟨v5, rfl, hv5, hb⟩
 have HB6 := Lib.hid (bstep HB5.out hb)
 have V16 := Lib.hid (V15.out.below hb)
 have V26 := Lib.hid (V25.out.below hb)
 have V36 := Lib.hid (V35.out.below hb)
 have V46 := Lib.hid (V4.out.below hb)
 have V5 := Lib.hid hv5
 clear hb hv5 H5 HB5 V15 V25 V35 V4
 go_wp2_with fail
 refine (H6.out _ HB6.out).mono ?_
 rintro e w7 ⟨v6, rfl, hv6, hb⟩
 have HB7 := Lib.hid (bstep HB6.out hb)
 have V17 := Lib.hid (V16.out.below hb)
 have V27 := Lib.hid (V26.out.below hb)
 have V37 := Lib.hid (V36.out.below hb)
 have V47 := Lib.hid (V46.out.below hb)
 have V57 := Lib.hid (V5.out.below hb)
 have V6 := Lib.hid hv6
 clear hb hv6 H6 HB6 V16 V26 V36 V46 V5
 go_wp2_with fail
 refine (H7.out _ HB7.out).mono ?_
 rintro e w8 ⟨rfl, hb⟩
 have hst := hb.trans (((Below.refl _ w8).alloc (Nat.le_refl _) (.cells #[.bool false, .string cs] 36)).mono hb.size)
 have HB8 := Lib.hid (bstep HB7.out hst)
 have V18 := Lib.hid (V17.out.below hst)
 have V28 := Lib.hid (V27.out.below hst)
 have V38 := Lib.hid (V37.out.below hst)
 have V48 := Lib.hid (V47.out.below hst)
 have V58 := Lib.hid (V57.out.below hst)
 have V68 := Lib.hid (V6.out.below hst)
 have P1 := Lib.hid (BC.new w8 w8.heap.size #[.bool false, .string cs] 36 rfl)
 clear hb hst H7 HB7 V17 V27 V37 V47 V57 V6
 go_upto_region 10 with fail
 obtain ⟨b19, hb19⟩ : ∃ b, w8.heap.size = b := ⟨_, rfl⟩
 rw [hb19] at P1 ⊢
 obtain ⟨Y8, hY8⟩ : ∃ X, w8.alloc (.cells #[.bool false, .string cs] 36) = X := ⟨_, rfl⟩
 rw [hY8] at HB8 V18 V28 V38 V48 V58 V68 P1 ⊢
 clear hY8 hb19
 go_wp2_with fail
 refine (H8.out _ HB8.out).mono ?_
 rintro e w9 ⟨rfl, hb⟩
 have hst := hb.trans (((Below.refl _ w9).alloc (Nat.le_refl _) (.cells #[.bool false, .string cs] 36)).mono hb.size)
 have HB9 := Lib.hid (bstep HB8.out hst)
 have V19 := Lib.hid (V18.out.below hst)
 have V29 := Lib.hid (V28.out.below hst)
 have V39 := Lib.hid (V38.out.below hst)
 have V49 := Lib.hid (V48.out.below hst)
 have V59 := Lib.hid (V58.out.below hst)
 have V69 := Lib.hid (V68.out.below hst)
 have P19 := Lib.hid (P1.out.below hst)
 have P2 := Lib.hid (BC.new w9 w9.heap.size #[.bool false, .string cs] 36 rfl)
 clear hb hst H8 HB8 V18 V28 V38 V48 V58 V68 P1
 go_upto_region 11 with fail
 obtain ⟨b21, hb21⟩ : ∃ b, w9.heap.size = b := ⟨_, rfl⟩
 rw [hb21] at P2 ⊢
 obtain ⟨Y9, hY9⟩ : ∃ X, w9.alloc (.cells #[.bool false, .string cs] 36) = X := ⟨_, rfl⟩
 rw [hY9] at HB9 V19 V29 V39 V49 V59 V69 P19 P2 ⊢
 clear hY9 hb21
 go_wp2_with fail
 refine (H9.out _ HB9.out).mono ?_
 rintro e wa ⟨rfl, hb⟩
 have HBa := Lib.hid (bstep HB9.out hb)
 have V1a := Lib.hid (V19.out.below hb)
 have V2a := Lib.hid (V29.out.below hb)
 have V3a := Lib.hid (V39.out.below hb)
 have V4a := Lib.hid (V49.out.below hb)
 have V5a := Lib.hid (V59.out.below hb)
 have V6a := Lib.hid (V69.out.below hb)
 have P1a := Lib.hid (P19.out.below hb)
 have P2a := Lib.hid (P2.out.below hb)
 clear hb H9 HB9 V19 V29 V39 V49 V59 V69 P19 P2
 go_wp2_with fail
 refine (HA.out _ HBa.out).mono ?_
 rintro e wb ⟨rfl, hb⟩
 have HBb := Lib.hid (bstep HBa.out hb)
 have V1b := Lib.hid (V1a.out.below hb)
 have V2b := Lib.hid (V2a.out.below hb)
 have V3b := Lib.hid (V3a.out.below hb)
 have V4b := Lib.hid (V4a.out.below hb)
 have V5b := Lib.hid (V5a.out.below hb)
 have V6b := Lib.hid (V6a.out.below hb)
 have P1b := Lib.hid (P1a.out.below hb)
 have P2b := Lib.hid (P2a.out.below hb)
 clear hb HA HBa V1a V2a V3a V4a V5a V6a P1a P2a
 go_wp2_with fail
 refine (HQ1.out _ _ _ V1b.out V2b.out).mono ?_
 rintro e wc ⟨rfl, hb⟩
 have HBc := Lib.hid (bstep HBb.out hb)
 have V3c := Lib.hid (V3b.out.below hb)
 have V4c := Lib.hid (V4b.out.below hb)
 have V5c := Lib.hid (V5b.out.below hb)
 have V6c := Lib.hid (V6b.out.below hb)
 have P1c := Lib.hid (P1b.out.below hb)
 have P2c := Lib.hid (P2b.out.below hb)
 clear hb HQ1 HBb V1b V2b V3b V4b V5b V6b P1b P2b
 go_wp2_with fail
 refine (HQ2.out _ _ _ V3c.out V4c.out).mono ?_
 rintro e wd ⟨rfl, hb⟩
 have HBd := Lib.hid (bstep HBc.out hb)
 have V5d := Lib.hid (V5c.out.below hb)
 have V6d := Lib.hid (V6c.out.below hb)
 have P1d := Lib.hid (P1c.out.below hb)
 have P2d := Lib.hid (P2c.out.below hb)
 clear hb HQ2 HBc V3c V4c V5c V6c P1c P2c
 go_wp2_with fail
 refine (HQ3.out _ _ _ V5d.out V6d.out).mono ?_
 rintro e we ⟨rfl, hb⟩
 have HBe := Lib.hid (bstep HBd.out hb)
 have P1e := Lib.hid (P1d.out.below hb)
 have P2e := Lib.hid (P2d.out.below hb)
 have y0 := P1e.out.at 0 _ rfl
 have y1 := P1e.out.at 1 _ rfl
 have y2 := P2e.out.at 0 _ rfl
 have y3 := P2e.out.at 1 _ rfl
 clear hb HQ3 HBd V5d V6d P1d P2d
 go_wp2_with fail
 refine (HAW.out _).mono ?_
 rintro e wf ⟨rfl, hb2⟩
 go_wp2
 go_ret
 exact ⟨rfl, bstep HBe.out hb2⟩
end Go.Proofs.Gv
