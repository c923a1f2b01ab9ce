/- groovelaw39.small: weights and a limit of an argument. -/
import Derived.Test.YtglgiofjgfbfgaaRowUP
import Derived.Test.YtglgiofjgfbfgaaLaw
import Derived.Test.YtglgiofjgfbfgaaLim3P
import Derived.Test.YtglgiofjgfbfgaaHuf
set_option linter.unusedSimpArgs false
set_option linter.unusedVariables false
namespace Go.Proofs.Gv
open Go Go.RowKit Go.Maps

theorem u8_nat9 {n : Int} (h : (Lit.int .u8 n).wf = true) : ∃ m : Nat, n = m ∧ m ≤ 255 := by
  have h2 : IntKind.u8.min ≤ n ∧ n ≤ IntKind.u8.max := by simpa [Lit.wf] using h
  have e1 : IntKind.u8.min = 0 := by decide
  have e2 : IntKind.u8.max = 255 := by decide
  rw [e1, e2] at h2
  exact ⟨n.toNat, by omega, by omega⟩
/-- What small answers. -/
def SmQ (L : List Nat) (q : Nat) (w : World) (e : Ending) (w' : World) : Prop :=
  ((L.length < 2 ∨ 6 < L.length) → e = .returned (.tuple #[.slice none 0 0, .int .i64 0, .bool false])) ∧
  (2 ≤ L.length ∧ L.length ≤ 6 → ∃ g c, e = .returned (.tuple #[.slice (some ⟨g, 0, none⟩) L.length c, .int .i64 ((q % 8 + 1 : Nat) : Int), .bool (decide (L.length ≤ 2 ^ (q % 8 + 1)))]) ∧ L.length ≤ c ∧ c ≤ maxLen ∧ Sl w' (some ⟨g, 0, none⟩) (VL L)) ∧ Below w.heap.size w w'
set_option maxRecDepth 100000 in
set_option maxHeartbeats 8000000 in
theorem small39_any (w : World) (a : Option Addr) (cap : Nat) (L : List Nat) (hc : L.length ≤ cap) (hcm : cap ≤ maxLen) (hz : ∀ x ∈ L, x < 2 ^ 32) (hS : USl w a L) (q : Nat) (hq : q ≤ 255) :
    Calls Try.prog 10 #[.slice a L.length cap, .int .u8 q] w (SmQ L q w) := by
  have hmx : (L.length : Int) ≤ maxLen := by omega
  by_cases h2 : L.length < 2
  · have h2I : (L.length : Int) < 2 := by omega
    have HQ := Lib.hid (show ∀ e, e = .returned (.tuple #[.slice none 0 0, .int .i64 0, .bool false]) → SmQ L q w e w from fun e he => ⟨fun _ => he, fun h => by omega, Below.refl _ _⟩)
    clear hS hz hq h2
    go_enter Try.func10, Try.ntmps10
    go_wp2
    refine bodyPost_ret (v := .tuple #[.slice none 0 0, .int .i64 0, .bool false]) (by simp [results, Try.results10, go_sem]) rfl ?_
    exact HQ.out _ rfl
  by_cases h6 : 6 < L.length
  · have h2I : decide ((L.length : Int) < 2) = false := by simp; omega
    have h6I : (6 : Int) < (L.length : Int) := by omega
    have HQ := Lib.hid (show ∀ e, e = .returned (.tuple #[.slice none 0 0, .int .i64 0, .bool false]) → SmQ L q w e w from fun e he => ⟨fun _ => he, fun h => by omega, Below.refl _ _⟩)
    clear hS hz hq h2 h6
    go_enter Try.func10, Try.ntmps10
    go_wp2
    refine bodyPost_ret (v := .tuple #[.slice none 0 0, .int .i64 0, .bool false]) (by simp [results, Try.results10, go_sem]) rfl ?_
    exact HQ.out _ rfl
  have h2I : decide ((L.length : Int) < 2) = false := by simp; omega
  have h6I : decide ((6 : Int) < (L.length : Int)) = false := by simp; omega
  have h6n : L.length ≤ 6 := by omega
  have h2n : 2 ≤ L.length := by omega
  have HS := Lib.hid hS
  have HZ := Lib.hid hz
  obtain ⟨i0, hi0, hz0, hz1, hz2⟩ := info_parts infoI
  obtain ⟨n, hn⟩ : ∃ n, L.length = n := ⟨_, rfl⟩
  have HNN := Lib.hid hn
  rw [hn] at h2I h6I h6n h2n hmx ⊢
  clear hS hz h2 h6 hc hcm hn
  go_enter Try.func10, Try.ntmps10
  go_wp2_with fail
  go_loopg [7, 21] (n + 1) (fun gg v7 v21 wr => ∃ i : Nat, v21 = .int .i64 (i : Int) ∧ i ≤ n ∧ n - i < gg ∧ Below w.heap.size w wr ∧ wr.ownsRow w.heap.size 29 2 v7 i (inV (VL (L.take i))))
  case atStart => exact ⟨0, rfl, Nat.zero_le _, by omega, Below.refl _ _, own_nil _ _ _ _⟩
  case round =>
    obtain ⟨i, rfl, hi, hig, hb, hown⟩ := hrel
    have HG := Lib.hid hig
    have HB := Lib.hid hb
    have HO := Lib.hid hown
    clear hig hb hown
    by_cases hlt : i < n
    · have hltI : (i : Int) < n := by omega
      obtain ⟨k, hk⟩ : ∃ k, L[i]? = some k := ⟨L[i]'(by rw [HNN.out]; exact hlt), List.getElem?_eq_getElem _⟩
      have hkb := HZ.out k (List.mem_of_getElem? hk)
      obtain ⟨A, rfl, c0⟩ := (HS.out.below HB.out) i k hk
      have HOF := Lib.hid (fun W => show Calls Try.prog 12 #[.int .i64 (k : Int)] W fun e w' => e = .returned (.agg #[.bool false, .string (mg k)]) ∧ Below W.heap.size W w' from by
        have := cOf (k : Int) (by omega) (by omega) W
        rwa [Int.natAbs_natCast, show sgn (k : Int) = false from decide_eq_false (by omega)] at this)
      have HX := Lib.hid (show inV (VL (L.take (i + 1))) = inV (VL (L.take i)) ++ [.bool false, .string (mg k)] from by rw [List.take_add_one, hk]; unfold VL; rw [List.map_append]; exact inV_snoc _ _)
      obtain ⟨v3, rfl⟩ : ∃ X, X = u7 := ⟨_, rfl⟩
      have hk32 : k < 4294967296 := by omega
      clear hkb hk
      go_wp2_with fail
      refine (HOF.out _).mono ?_
      rintro e w1 ⟨rfl, hb1⟩
      have HO1 := Lib.hid (own_grown HO.out (Below.grows hb1) (by simp))
      have HB1 := Lib.hid (bstep HB.out hb1)
      clear hb1
      go_wp2_with (at_builtin; refine wpList_append_own _ rfl _ _ 24 rfl w.heap.size 29 i0 (.agg #[.bool false, .string ⟨#[]⟩]) 2 24 Try.underlying24 hi0 hz0 hz1 hz2 rfl (by decide) v3 i (inV (VL (L.take i))) rfl (HO1.out.alloc (.cells #[.bool false, .string (mg k)] 29)) ⟨w1.heap.size, 0, none⟩ 1 1 [.bool false, .string (mg k)] rfl rfl (World.news_of_block (cs := #[.bool false, .string (mg k)]) (t := 29) (fr := (0, 0)) (heap_alloc_new w1 _)) (by simp [Value.oneCell']) (by unfold maxLen; omega) (by omega) (by have := HB1.out.size; simp; omega) ?_; intro v' w2 hown2 hgrow2 _)
      go_roundg (n - i)
      case rel =>
        refine ⟨i + 1, by go_num, by omega, by omega, ?_, by rw [HX.out]; exact hown2⟩
        exact (HB1.out.alloc HB1.out.size _).grown hgrow2 (by have := HB1.out.size; simp; omega) (fun k e => (own_base HO1.out e).1)
      case measure => have := HG.out; omega
    · obtain rfl : n = i := by omega
      have hB : decide ((n : Int) < n) = false := by simp
      obtain ⟨g, c, rfl, hc1, hc2, hsl⟩ : ∃ g c, u7 = .slice (some ⟨g, 0, none⟩) n c ∧ n ≤ c ∧ c ≤ maxLen ∧ Sl wr (some ⟨g, 0, none⟩) (VL L) := by
        have ho := HO.out
        rw [← HNN.out, List.take_length] at ho
        rcases id ho.2 with ⟨-, h0⟩ | ⟨g, c, cur, rfl, -, -, h1, h2, -⟩
        · have := HNN.out; omega
        · refine ⟨g, c, by rw [HNN.out], by rw [← HNN.out]; exact h1, h2, ?_⟩
          have hl : (VL L).length = L.length := VL_len L
          refine Sl.of_own (c := c) (base := w.heap.size) ?_
          rw [hl]
          exact ho
      have HF := Lib.hid (show ∀ e wz, Below wr.heap.size wr wz → e = .returned (.tuple #[.slice (some ⟨g, 0, none⟩) n c, .int .i64 ((q % 8 + 1 : Nat) : Int), .bool (decide (n ≤ 2 ^ (q % 8 + 1)))]) → SmQ L q w e wz from fun e wz hbz he => ⟨fun h => by have := HNN.out; omega, fun _ => ⟨g, c, by rw [HNN.out]; exact he, by rw [HNN.out]; exact hc1, hc2, hsl.below hbz⟩, bstep HB.out hbz⟩)
      obtain ⟨r, hr⟩ : ∃ r, q % 8 = r := ⟨_, rfl⟩
      rw [hr] at HF
      have hr8 : r = 0 ∨ r = 1 ∨ r = 2 ∨ r = 3 ∨ r = 4 ∨ r = 5 ∨ r = 6 ∨ r = 7 := by omega
      have hrI : Int.tmod (q : Int) 8 = (r : Int) := by rw [Int.tmod_eq_emod_of_nonneg (by omega)]; omega
      clear hsl hc1 hc2 hr
      rcases hr8 with rfl | rfl | rfl | rfl | rfl | rfl | rfl | rfl
      · go_wp2_with fail
        go_region
        go_wp2
        refine bodyPost_ret (v := .tuple #[.slice (some ⟨g, 0, none⟩) n c, .int .i64 1, .bool (decide ((n : Int) ≤ 2))]) (by simp [results, Try.results10, go_sem]) rfl ?_
        refine HF.out _ _ (Below.refl _ _).drew ?_
        rw [show decide ((n : Int) ≤ 2) = decide (n ≤ 2 ^ (0 + 1)) from by rw [decide_eq_decide]; simp only [Nat.reduceAdd, Nat.reducePow]; omega]
        rfl
      · go_wp2_with fail
        go_region
        go_wp2
        refine bodyPost_ret (v := .tuple #[.slice (some ⟨g, 0, none⟩) n c, .int .i64 2, .bool (decide ((n : Int) ≤ 4))]) (by simp [results, Try.results10, go_sem]) rfl ?_
        refine HF.out _ _ (Below.refl _ _).drew ?_
        rw [show decide ((n : Int) ≤ 4) = decide (n ≤ 2 ^ (1 + 1)) from by rw [decide_eq_decide]; simp only [Nat.reduceAdd, Nat.reducePow]; omega]
        rfl
      · go_wp2_with fail
        go_region
        go_wp2
        refine bodyPost_ret (v := .tuple #[.slice (some ⟨g, 0, none⟩) n c, .int .i64 3, .bool (decide ((n : Int) ≤ 8))]) (by simp [results, Try.results10, go_sem]) rfl ?_
        refine HF.out _ _ (Below.refl _ _).drew ?_
        rw [show decide ((n : Int) ≤ 8) = decide (n ≤ 2 ^ (2 + 1)) from by rw [decide_eq_decide]; simp only [Nat.reduceAdd, Nat.reducePow]; omega]
        rfl
      · go_wp2_with fail
        go_region
        go_wp2
        refine bodyPost_ret (v := .tuple #[.slice (some ⟨g, 0, none⟩) n c, .int .i64 4, .bool (decide ((n : Int) ≤ 16))]) (by simp [results, Try.results10, go_sem]) rfl ?_
        refine HF.out _ _ (Below.refl _ _).drew ?_
        rw [show decide ((n : Int) ≤ 16) = decide (n ≤ 2 ^ (3 + 1)) from by rw [decide_eq_decide]; simp only [Nat.reduceAdd, Nat.reducePow]; omega]
        rfl
      · go_wp2_with fail
        go_region
        go_wp2
        refine bodyPost_ret (v := .tuple #[.slice (some ⟨g, 0, none⟩) n c, .int .i64 5, .bool (decide ((n : Int) ≤ 32))]) (by simp [results, Try.results10, go_sem]) rfl ?_
        refine HF.out _ _ (Below.refl _ _).drew ?_
        rw [show decide ((n : Int) ≤ 32) = decide (n ≤ 2 ^ (4 + 1)) from by rw [decide_eq_decide]; simp only [Nat.reduceAdd, Nat.reducePow]; omega]
        rfl
      · go_wp2_with fail
        go_region
        go_wp2
        refine bodyPost_ret (v := .tuple #[.slice (some ⟨g, 0, none⟩) n c, .int .i64 6, .bool (decide ((n : Int) ≤ 64))]) (by simp [results, Try.results10, go_sem]) rfl ?_
        refine HF.out _ _ (Below.refl _ _).drew ?_
        rw [show decide ((n : Int) ≤ 64) = decide (n ≤ 2 ^ (5 + 1)) from by rw [decide_eq_decide]; simp only [Nat.reduceAdd, Nat.reducePow]; omega]
        rfl
      · go_wp2_with fail
        go_region
        go_wp2
        refine bodyPost_ret (v := .tuple #[.slice (some ⟨g, 0, none⟩) n c, .int .i64 7, .bool (decide ((n : Int) ≤ 128))]) (by simp [results, Try.results10, go_sem]) rfl ?_
        refine HF.out _ _ (Below.refl _ _).drew ?_
        rw [show decide ((n : Int) ≤ 128) = decide (n ≤ 2 ^ (6 + 1)) from by rw [decide_eq_decide]; simp only [Nat.reduceAdd, Nat.reducePow]; omega]
        rfl
      · go_wp2_with fail
        go_region
        go_wp2
        refine bodyPost_ret (v := .tuple #[.slice (some ⟨g, 0, none⟩) n c, .int .i64 8, .bool (decide ((n : Int) ≤ 256))]) (by simp [results, Try.results10, go_sem]) rfl ?_
        refine HF.out _ _ (Below.refl _ _).drew ?_
        rw [show decide ((n : Int) ≤ 256) = decide (n ≤ 2 ^ (7 + 1)) from by rw [decide_eq_decide]; simp only [Nat.reduceAdd, Nat.reducePow]; omega]
        rfl
end Go.Proofs.Gv

namespace Go.Proofs.Gv
open Go Go.RowKit Go.Maps

theorem limE_zero {Ws : List Nat} {m : Nat} (h2 : 2 ≤ Ws.length) (h64 : Ws.length ≤ 64) (hm : 1 ≤ m) (hm64 : m ≤ 64) (hf : Ws.length ≤ 2 ^ m) : limE (VL Ws) m = 0 := by
  unfold limE
  rw [if_neg (by rw [chkW_VL h2 h64]; simp), if_neg (by omega), if_neg]
  rintro ⟨-, h⟩
  rw [Int.toNat_natCast, VL_len] at h
  omega
theorem VL8 {Ws : List Nat} (h : ∀ z ∈ Ws, z < 2 ^ 64) : ∀ x ∈ VL Ws, x.2.size ≤ 8 := fun x hx => by
  obtain ⟨z, hm, rfl⟩ := List.mem_map.1 hx
  exact size_mg (n := z) (k := 8) (Nat.lt_of_lt_of_le (h z hm) (by decide))
theorem wf_m {m : Nat} (h : m ≤ 64) : (Lit.int .i64 (m : Int)).wf = true := by
  have h1 : IntKind.i64.min = -9223372036854775808 := by decide
  have h3 : IntKind.i64.max = 9223372036854775807 := by decide
  simp [Lit.wf, h1, h3]
  omega
/-- Cost at weights that fit. -/
theorem cos39_ok {g c n m : Nat} {Ws : List Nat} (hn : Ws.length = n) (h2 : 2 ≤ n) (h12 : n ≤ 12) (hc : n ≤ c) (hcm : c ≤ maxLen) (hz : ∀ z ∈ Ws, z < 2 ^ 64) (hm : 1 ≤ m) (hm64 : m ≤ 64) (hf : n ≤ 2 ^ m) (W : World) (hS : Sl W (some ⟨g, 0, none⟩) (VL Ws)) :
    Calls Try.prog 15 #[.slice (some ⟨g, 0, none⟩) n c, .int .i64 m] W fun e w' => e = .returned (.tuple #[.agg #[.bool false, .string (mg (limC Ws m))], .int .i64 0]) ∧ Below W.heap.size W w' := by
  have h := Cost39_any c (some ⟨g, 0, none⟩) (VL Ws) m (by rw [VL_len, hn]; exact hc) hcm (.inl (by rw [VL_len, hn]; exact h12)) (VL8 hz) (wf_m hm64) W hS
  rw [VL_len, hn] at h
  refine h.mono ?_
  rintro e w' ⟨-, h, hb⟩
  obtain ⟨Us, e1, rfl⟩ := h (limE_zero (by omega) (by omega) hm hm64 (by omega))
  obtain rfl := VL_inj e1
  exact ⟨by rw [Int.toNat_natCast], hb⟩
end Go.Proofs.Gv

namespace Go.Proofs.Gv

theorem insR_perm (W : Nat → Nat) (x : Nat) : ∀ l, (insR W x l).Perm (x :: l)
  | [] => .refl _
  | y :: r => by
    unfold insR
    split
    · exact ((insR_perm W x r).cons y).trans (.swap x y r)
    · exact .refl _
theorem ordR_perm (W : Nat → Nat) : ∀ n, (ordR W n).Perm (List.range n)
  | 0 => .refl _
  | n + 1 => by
    unfold ordR
    rw [List.range_succ]
    exact ((insR_perm W n _).trans ((ordR_perm W n).cons n)).trans (List.perm_append_comm (l₁ := [n]) (l₂ := List.range n))
theorem ordL_perm (Ws : List Nat) : (ordL Ws).Perm (List.range Ws.length) := (List.reverse_perm _).trans (ordR_perm _ _)
/-- Greater ones first. -/
def Desc : List Nat → Prop
  | [] => True
  | x :: l => (∀ y ∈ l, y ≤ x) ∧ Desc l
theorem insR_asc (W : Nat → Nat) (x : Nat) : ∀ l : List Nat, l.Pairwise (fun a b => W a ≤ W b) → (insR W x l).Pairwise (fun a b => W a ≤ W b)
  | [], _ => by simp [insR]
  | y :: r, h => by
    rw [List.pairwise_cons] at h
    unfold insR
    split
    · rename_i hlt
      rw [List.pairwise_cons]
      refine ⟨fun z hz => ?_, insR_asc W x r h.2⟩
      rcases (insR_mem W x z r).1 hz with rfl | hz
      · omega
      · exact h.1 z hz
    · rename_i hge
      rw [List.pairwise_cons]
      refine ⟨fun z hz => ?_, List.pairwise_cons.2 h⟩
      rcases List.mem_cons.1 hz with rfl | hz
      · omega
      · have := h.1 z hz; omega
theorem ordR_asc (W : Nat → Nat) : ∀ n, (ordR W n).Pairwise (fun a b => W a ≤ W b)
  | 0 => List.Pairwise.nil
  | n + 1 => by unfold ordR; exact insR_asc W n _ (ordR_asc W n)
theorem desc_of : ∀ {l : List Nat}, l.Pairwise (fun a b => b ≤ a) → Desc l
  | [], _ => trivial
  | x :: l, h => by
    rw [List.pairwise_cons] at h
    exact ⟨fun y hy => h.1 y hy, desc_of h.2⟩
theorem owL_desc (Ws : List Nat) : Desc (owL Ws) := by
  refine desc_of ?_
  unfold owL ordL
  rw [List.pairwise_map, List.pairwise_reverse]
  exact ordR_asc _ _
/- Lengths in order: the cost of pairs. -/
/-- A length put into ascending ones. -/
def insA (a : Nat) : List Nat → List Nat
  | [] => [a]
  | b :: s => if a ≤ b then a :: b :: s else b :: insA a s
def srtA : List Nat → List Nat
  | [] => []
  | a :: l => insA a (srtA l)
theorem insA_perm (a : Nat) : ∀ l, (insA a l).Perm (a :: l)
  | [] => .refl _
  | b :: s => by
    unfold insA
    split
    · exact .refl _
    · exact ((insA_perm a s).cons b).trans (.swap a b s)
theorem srtA_perm : ∀ l, (srtA l).Perm l
  | [] => .refl _
  | a :: l => (insA_perm a (srtA l)).trans ((srtA_perm l).cons a)
theorem insA_asc (a : Nat) : ∀ l : List Nat, l.Pairwise (· ≤ ·) → (insA a l).Pairwise (· ≤ ·)
  | [], _ => by simp [insA]
  | b :: s, h => by
    rw [List.pairwise_cons] at h
    unfold insA
    split
    · rename_i hle
      rw [List.pairwise_cons]
      refine ⟨fun z hz => ?_, List.pairwise_cons.2 h⟩
      rcases List.mem_cons.1 hz with rfl | hz
      · exact hle
      · exact Nat.le_trans hle (h.1 z hz)
    · rename_i hlt
      rw [List.pairwise_cons]
      refine ⟨fun z hz => ?_, insA_asc a s h.2⟩
      rcases List.mem_cons.1 ((insA_perm a s).mem_iff.1 hz) with rfl | hz
      · omega
      · exact h.1 z hz
theorem srtA_asc : ∀ l, (srtA l).Pairwise (· ≤ ·)
  | [] => List.Pairwise.nil
  | a :: l => insA_asc a _ (srtA_asc l)
theorem insA_cost (a : Nat) : ∀ (s O : List Nat) (o : Nat), Desc (o :: O) → O.length = s.length → csP ((o :: O).zip (insA a s)) ≤ o * a + csP (O.zip s)
  | [], O, o, _, hl => by
    unfold insA
    cases O with
    | nil => simp [csP]
    | cons x O => cases hl
  | b :: s, [], o, _, hl => by cases hl
  | b :: s, x :: O, o, hd, hl => by
    have hxo : x ≤ o := hd.1 x (List.mem_cons_self ..)
    unfold insA
    split
    · rw [List.zip_cons_cons, csP_cons]
      exact Nat.le_refl _
    · rename_i hlt
      have ih := insA_cost a s O x hd.2 (by simpa using hl)
      rw [List.zip_cons_cons, csP_cons, List.zip_cons_cons, csP_cons]
      show o * b + csP ((x :: O).zip (insA a s)) ≤ o * a + (x * b + csP (O.zip s))
      obtain ⟨t, rfl⟩ : ∃ t, o = x + t := ⟨o - x, by omega⟩
      have h1 : t * b ≤ t * a := Nat.mul_le_mul_left t (by omega)
      rw [Nat.add_mul, Nat.add_mul]
      omega
/-- In ascending order they cost least. -/
theorem srtA_cost : ∀ (l O : List Nat), Desc O → O.length = l.length → csP (O.zip (srtA l)) ≤ csP (O.zip l)
  | [], O, _, _ => by simp [srtA]
  | a :: l, [], _, h => by cases h
  | a :: l, o :: O, hd, hl => by
    have hl2 : O.length = l.length := by simpa using hl
    have h1 := srtA_cost l O hd.2 hl2
    have h2 := insA_cost a (srtA l) O o hd (by rw [(srtA_perm l).length_eq]; exact hl2)
    rw [List.zip_cons_cons, csP_cons]
    show csP ((o :: O).zip (insA a (srtA l))) ≤ o * a + csP (O.zip l)
    omega
/-- What lengths take at depth M. -/
def krL (M : Nat) (d : List Nat) : Nat := (d.map fun x => 2 ^ (M - x)).sum
theorem krL_perm {M : Nat} {a b : List Nat} (h : a.Perm b) : krL M a = krL M b := (h.map _).sum_nat
theorem krL_app (M : Nat) (a b : List Nat) : krL M (a ++ b) = krL M a + krL M b := by simp [krL]
theorem krL_rep (M j p : Nat) : krL M (List.replicate p j) = p * 2 ^ (M - j) := by
  unfold krL
  rw [List.map_replicate, List.sum_replicate_nat]
theorem krL_le {M j : Nat} : ∀ {d : List Nat}, (∀ x ∈ d, j ≤ x) → krL M d ≤ d.length * 2 ^ (M - j)
  | [], _ => by simp [krL]
  | x :: d, h => by
    have ih := krL_le (M := M) (j := j) (d := d) fun y hy => h y (List.mem_cons_of_mem _ hy)
    have hx := h x (List.mem_cons_self ..)
    have h2 : 2 ^ (M - x) ≤ 2 ^ (M - j) := Nat.pow_le_pow_right (by decide) (by omega)
    show 2 ^ (M - x) + krL M d ≤ (d.length + 1) * 2 ^ (M - j)
    rw [Nat.add_mul, Nat.one_mul]
    omega
theorem csP_zip_app (A B a b : List Nat) (h : A.length = a.length) : csP ((A ++ B).zip (a ++ b)) = csP (A.zip a) + csP (B.zip b) := by
  rw [List.zip_append h, csP_append]
theorem csP_rep (j : Nat) : ∀ (A : List Nat) (p : Nat), A.length = p → csP (A.zip (List.replicate p j)) = A.sum * j
  | [], p, h => by simp [csP]
  | x :: A, 0, h => by cases h
  | x :: A, p + 1, h => by
    rw [List.replicate_succ, List.zip_cons_cons, csP_cons, csP_rep j A p (by simpa using h), List.sum_cons, Nat.add_mul]
/-- The lengths fit. -/
theorem lenG_fit (O : List Nat) (n : Nat) : ∀ r j k i, i ≤ n → tb O n r k i ≠ none → krL (j + r) (lenG O n r j k i) ≤ k * 2 ^ r
  | 0, j, k, i, hi, hs => by
    unfold lenG
    rw [krL_rep, Nat.add_zero, Nat.sub_self]
    have := pnum_le O n 0 k i
    omega
  | r + 1, j, k, i, hi, hs => by
    by_cases h : i < n
    · rw [lenG_succ O h, krL_app, krL_rep]
      obtain ⟨p, hp⟩ : ∃ p, pnum O n (r + 1) k i = p := ⟨_, rfl⟩
      have hle := pnum_le O n (r + 1) k i
      have hs2 := pnum_some O h hs
      rw [hp] at hle hs2 ⊢
      have ih := lenG_fit O n r (j + 1) (min (2 * (k - p)) n) (i + p) (by omega) hs2
      rw [show j + 1 + r = j + (r + 1) by omega] at ih
      rw [show j + (r + 1) - j = r + 1 by omega]
      have h2 : min (2 * (k - p)) n * 2 ^ r ≤ 2 * (k - p) * 2 ^ r := Nat.mul_le_mul_right _ (Nat.min_le_left _ _)
      have h3 : 2 * (k - p) * 2 ^ r = (k - p) * 2 ^ (r + 1) := by rw [Nat.pow_succ, Nat.mul_comm 2 (k - p), Nat.mul_assoc, Nat.mul_comm 2]
      have h4 : p * 2 ^ (r + 1) + (k - p) * 2 ^ (r + 1) = k * 2 ^ (r + 1) := by rw [← Nat.add_mul]; congr 1; omega
      omega
    · obtain rfl : i = n := by omega
      rw [lenG_end]
      simp [krL]
/-- They cost what the table says. -/
theorem lenG_cost (O : List Nat) (n : Nat) (hO : O.length = n) : ∀ r j k i, i ≤ n → ∀ x, tb O n r k i = some x → csP ((O.drop i).zip (lenG O n r j k i)) = (O.drop i).sum * j + x
  | 0, j, k, i, hi, x, hx => by
    by_cases h : i < n
    · have hp := pnum_last O h (by rw [hx]; simp)
      unfold lenG
      rw [hp, csP_rep j _ _ (by rw [List.length_drop, hO])]
      unfold tb at hx
      rw [if_pos h] at hx
      split at hx
      · cases hx
      · cases hx; rfl
    · obtain rfl : i = n := by omega
      rw [tb_end] at hx
      cases hx
      rw [List.drop_of_length_le (by omega)]
      simp [csP]
  | r + 1, j, k, i, hi, x, hx => by
    by_cases h : i < n
    · rw [lenG_succ O h]
      have hpi := pnum_is O (r := r) (k := k) h
      obtain ⟨p, hp⟩ : ∃ p, pnum O n (r + 1) k i = p := ⟨_, rfl⟩
      have hle := pnum_le O n (r + 1) k i
      rw [hp] at hle hpi ⊢
      rw [hx] at hpi
      unfold plc at hpi
      cases hy : tb O n r (min (2 * (k - p)) n) (i + p) with
      | none => rw [hy] at hpi; cases hpi
      | some y =>
        rw [hy] at hpi
        have e : (O.drop (i + p)).sum + y = x := by simpa using hpi
        have ih := lenG_cost O n hO r (j + 1) (min (2 * (k - p)) n) (i + p) (by omega) y hy
        have hsp : O.drop i = (O.drop i).take p ++ O.drop (i + p) := by rw [← List.drop_drop, List.take_append_drop]
        have hl : ((O.drop i).take p).length = p := by rw [List.length_take, List.length_drop]; omega
        rw [hsp, csP_zip_app _ _ _ _ (by rw [hl, List.length_replicate]), csP_rep j _ p hl, ih, List.sum_append, Nat.add_mul, Nat.mul_add, Nat.mul_one]
        omega
    · obtain rfl : i = n := by omega
      rw [tb_end] at hx
      cases hx
      rw [List.drop_of_length_le (by omega)]
      simp [csP]
/-- The first ones of ascending lengths that are j. -/
theorem split_j (j : Nat) : ∀ d : List Nat, d.Pairwise (· ≤ ·) → (∀ x ∈ d, j ≤ x) → ∃ p r, d = List.replicate p j ++ r ∧ (∀ x ∈ r, j + 1 ≤ x) ∧ r.Pairwise (· ≤ ·)
  | [], _, _ => ⟨0, [], rfl, fun x hx => (by cases hx), List.Pairwise.nil⟩
  | x :: d, h, hj => by
    rw [List.pairwise_cons] at h
    by_cases hx : x = j
    · subst hx
      obtain ⟨p, r, h1, h2, h3⟩ := split_j x d h.2 fun y hy => hj y (List.mem_cons_of_mem _ hy)
      exact ⟨p + 1, r, by rw [h1]; rfl, h2, h3⟩
    · have hxj := hj x (List.mem_cons_self ..)
      refine ⟨0, x :: d, rfl, fun y hy => ?_, List.pairwise_cons.2 h⟩
      rcases List.mem_cons.1 hy with rfl | hy
      · omega
      · have := h.1 y hy; omega
/-- No ascending lengths that fit cost less. -/
theorem tb_best (O : List Nat) (n : Nat) (hO : O.length = n) : ∀ r j k i (d : List Nat), i ≤ n → d.length = n - i → d.Pairwise (· ≤ ·) → (∀ x ∈ d, j ≤ x ∧ x ≤ j + r) → krL (j + r) d ≤ k * 2 ^ r →
    ∃ x, tb O n r k i = some x ∧ (O.drop i).sum * j + x ≤ csP ((O.drop i).zip d)
  | 0, j, k, i, d, hi, hd, ha, hb, hk => by
    have hdj : d = List.replicate (n - i) j := by
      rw [← hd]
      exact List.eq_replicate_of_mem fun x hx => by have := hb x hx; omega
    rw [hdj, krL_rep, Nat.add_zero, Nat.sub_self] at hk
    refine ⟨0, ?_, ?_⟩
    · unfold tb
      split
      · rw [if_neg (by simp at hk; omega)]
      · rfl
    · rw [hdj, csP_rep j _ _ (by rw [List.length_drop, hO])]
      exact Nat.le_refl _
  | r + 1, j, k, i, d, hi, hd, ha, hb, hk => by
    by_cases h : i < n
    · obtain ⟨p, s, rfl, hs1, hs2⟩ := split_j j d ha fun x hx => (hb x hx).1
      rw [List.length_append, List.length_replicate] at hd
      rw [krL_app, krL_rep, show j + (r + 1) - j = r + 1 by omega] at hk
      have hpk : p ≤ k := by
        have h1 : p * 2 ^ (r + 1) ≤ k * 2 ^ (r + 1) := by omega
        exact Nat.le_of_mul_le_mul_right h1 (Nat.pow_pos (by decide))
      have hk2 : krL (j + 1 + r) s ≤ min (2 * (k - p)) n * 2 ^ r := by
        rw [show j + (r + 1) = j + 1 + r by omega] at hk
        have h3 : 2 * (k - p) * 2 ^ r = (k - p) * 2 ^ (r + 1) := by rw [Nat.pow_succ, Nat.mul_comm 2 (k - p), Nat.mul_assoc, Nat.mul_comm 2]
        have h4 : p * 2 ^ (r + 1) + (k - p) * 2 ^ (r + 1) = k * 2 ^ (r + 1) := by rw [← Nat.add_mul]; congr 1; omega
        by_cases hmn : 2 * (k - p) ≤ n
        · rw [Nat.min_eq_left hmn]; omega
        · rw [Nat.min_eq_right (by omega)]
          have h5 := krL_le (M := j + 1 + r) (j := j + 1) (d := s) hs1
          rw [show j + 1 + r - (j + 1) = r by omega] at h5
          exact Nat.le_trans h5 (Nat.mul_le_mul_right _ (by omega))
      obtain ⟨y, hy, hc⟩ := tb_best O n hO r (j + 1) (min (2 * (k - p)) n) (i + p) s (by omega) (by omega) hs2 (fun x hx => ⟨hs1 x hx, by have := (hb x (List.mem_append_right _ hx)).2; omega⟩) hk2
      have hpl : plc O n r k i p = some ((O.drop (i + p)).sum + y) := by unfold plc; rw [hy]; rfl
      obtain ⟨x, hx1, hx2⟩ := leastF_le hpl (min k (n - i) + 1) (by omega)
      refine ⟨x, by rw [tb_succ O h]; exact hx1, ?_⟩
      have hsp : O.drop i = (O.drop i).take p ++ O.drop (i + p) := by rw [← List.drop_drop, List.take_append_drop]
      have hl : ((O.drop i).take p).length = p := by rw [List.length_take, List.length_drop]; omega
      rw [hsp, csP_zip_app _ _ _ _ (by rw [hl, List.length_replicate]), csP_rep j _ p hl, List.sum_append, Nat.add_mul]
      rw [Nat.mul_add, Nat.mul_one] at hc
      omega
    · obtain rfl : i = n := by omega
      exact ⟨0, tb_end O i (r + 1) k, by rw [List.drop_of_length_le (by omega)]; simp⟩
end Go.Proofs.Gv
